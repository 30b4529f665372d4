/-
  The law of the spoilt code, walked. Condition: the table as laid.
-/
import Derived.Test.YtoddklfblcfoiaaDoorCpM
import Derived.Test.YtoddklfblcfoiaaDoorCoZ
import Derived.Deep.CutBlock
namespace Go.Proofs.YtoddklfblcfoiaaDoor
open Go Go.RowKit
set_option linter.unusedVariables false
set_option linter.unusedSimpArgs false
set_option maxRecDepth 100000

theorem SmS.set0 {b0 b : Nat} {w w' : World} {l0 l1 : List Ins} {n0 n1 c0 c1 : Nat} (h : SmS b0 b w l0 l1 n0 n1 c0 c1) (k : Nat) (z : Ins) (hk : k < l0.length) (hg : w.grownBy w' (some (b + 1))) (ho : Own w' b0 5 (.slice (some ⟨b + 1, 0, none⟩) n0 c0) n0 (splice (inCells l0) (k * 5) (insC z))) : SmS b0 b w' (l0.set k z) l1 n0 n1 c0 c1 := by
  have h1 := h.f1.mods (Mods.grown hg) (fun g hg e => by have e2 : b + 2 = g := by simpa [Value.ownBlock] using hg
                                                         have := Option.some.inj e; omega)
  have h2 := h.fs.mods (Mods.grown hg) (fun g hg e => by have e2 : b + 3 = g := by simpa [Value.ownBlock] using hg
                                                         have := Option.some.inj e; omega)
  rw [ins_set l0 k z hk] at ho
  exact ⟨ho, h1, h2⟩
theorem SmS.set1 {b0 b : Nat} {w w' : World} {l0 l1 : List Ins} {n0 n1 c0 c1 : Nat} (h : SmS b0 b w l0 l1 n0 n1 c0 c1) (k : Nat) (z : Ins) (hk : k < l1.length) (hg : w.grownBy w' (some (b + 2))) (ho : Own w' b0 5 (.slice (some ⟨b + 2, 0, none⟩) n1 c1) n1 (splice (inCells l1) (k * 5) (insC z))) : SmS b0 b w' l0 (l1.set k z) n0 n1 c0 c1 := by
  have h1 := h.f0.mods (Mods.grown hg) (fun g hg e => by have e2 : b + 1 = g := by simpa [Value.ownBlock] using hg
                                                         have := Option.some.inj e; omega)
  have h2 := h.fs.mods (Mods.grown hg) (fun g hg e => by have e2 : b + 3 = g := by simpa [Value.ownBlock] using hg
                                                         have := Option.some.inj e; omega)
  rw [ins_set l1 k z hk] at ho
  exact ⟨h1, ho, h2⟩
theorem sm_small {r : List Sta} : ∀ l ∈ (smC r).f, l.length ≤ 1000000 ∧ ∀ x ∈ l, x.t.length ≤ 1000000 := by
  intro l hl
  simp only [smC, List.mem_cons, List.not_mem_nil, or_false] at hl
  rcases hl with rfl | rfl
  · refine ⟨by decide, fun x hx => ?_⟩
    simp only [smF0, smG, List.mem_cons, List.not_mem_nil, or_false] at hx
    rcases hx with rfl | rfl | rfl | rfl | rfl | rfl | rfl | rfl | rfl <;> decide
  · refine ⟨by decide, fun x hx => ?_⟩
    simp only [smF1, List.mem_cons, List.not_mem_nil, or_false] at hx
    rcases hx with rfl | rfl | rfl | rfl <;> decide
def lfOf (f : Nat) : List Ins := if f = 0 then smF0 else smF1
theorem lf_at (f k : Nat) : (lfOf f)[k]? = smAt f k := by unfold lfOf smAt; split <;> rfl
theorem SmS.fn {b : Nat} {w : World} (h : SmS b b w smF0 smF1 9 4 9 4) {f : Nat} (hf : f < 2) : Own w b 5 (.slice (some ⟨b + 1 + f, 0, none⟩) (lfOf f).length (lfOf f).length) (lfOf f).length (inCells (lfOf f)) ∧ w.cell? ⟨b + 3, f, none⟩ = some (.slice (some ⟨b + 1 + f, 0, none⟩) (lfOf f).length (lfOf f).length) := by
  have hc : f = 0 ∨ f = 1 := by omega
  rcases hc with rfl | rfl
  · exact ⟨h.f0, h.fs.get 0 (by simp)⟩
  · exact ⟨h.f1, h.fs.get 1 (by simp)⟩
theorem SmS.setF {b : Nat} {w w' : World} (h : SmS b b w smF0 smF1 9 4 9 4) {f k : Nat} (hf : f < 2) (z : Ins) (hk : k < (lfOf f).length) (hg : w.grownBy w' (some (b + 1 + f))) (ho : Own w' b 5 (.slice (some ⟨b + 1 + f, 0, none⟩) (lfOf f).length (lfOf f).length) (lfOf f).length (splice (inCells (lfOf f)) (k * 5) (insC z))) : CodM w' (.slice (some ⟨b + 3, 0, none⟩) 2 2) (.slice none 0 0) (smX f k z) := by
  have hc : f = 0 ∨ f = 1 := by omega
  rcases hc with rfl | rfl
  · exact (h.set0 k z hk hg ho).cod
  · exact (h.set1 k z hk hg ho).cod
theorem smX_small {f k : Nat} {z : Ins} (hz : z.t.length ≤ 1000000) : ∀ l ∈ (smX f k z).f, l.length ≤ 1000000 ∧ ∀ x ∈ l, x.t.length ≤ 1000000 := by
  have h0 := (sm_small (r := []) smF0 (List.mem_cons_self ..))
  have h1 := (sm_small (r := []) smF1 (List.mem_cons_of_mem _ (List.mem_cons_self ..)))
  have key : ∀ (l : List Ins), (l.length ≤ 1000000 ∧ ∀ x ∈ l, x.t.length ≤ 1000000) → ((l.set k z).length ≤ 1000000 ∧ ∀ x ∈ l.set k z, x.t.length ≤ 1000000) := fun l hl => by
    refine ⟨by rw [List.length_set]; exact hl.1, fun x hx => ?_⟩
    rcases List.mem_or_eq_of_mem_set hx with h | rfl
    · exact hl.2 x h
    · exact hz
  intro l hl
  unfold smX at hl
  split at hl
  · simp only [List.mem_cons, List.not_mem_nil, or_false] at hl
    rcases hl with rfl | rfl
    · exact key _ h0
    · exact h1
  · simp only [List.mem_cons, List.not_mem_nil, or_false] at hl
    rcases hl with rfl | rfl
    · exact h0
    · exact key _ h1
theorem smX_len (f k : Nat) (z : Ins) : (smX f k z).f.length = 2 ∧ (smX f k z).r = [] := by unfold smX; split <;> exact ⟨rfl, rfl⟩
def RsW (B : Nat) (w w' : World) : Prop := Mods (fun g => g = B) w w'
theorem RsW_refl (B : Nat) (w : World) : RsW B w w := Mods.refl _ _
theorem RsW_trans (B : Nat) (x y z : World) (h : RsW B x y) (k : RsW B y z) : RsW B x z := Mods.trans h k
instance laterRsW (B : Nat) (w : World) : Nonempty (Later (RsW B) w) := nonemptyLater (RsW_refl B) w
theorem laterS_cell {B : Nat} {w : World} {b o : Nat} {u : Value} (h : w.cell? ⟨b, o, none⟩ = some u) (hb : b ≠ B) : ∀ x : Later (RsW B) w.drew, x.w.cell? ⟨b, o, none⟩ = some u :=
  fun x => Mods.cell (P := fun g => g = B) x.later h hb
theorem sm3_small : ∀ l ∈ sm3.f, l.length ≤ 1000000 ∧ ∀ x ∈ l, x.t.length ≤ 1000000 := by
  intro l hl
  simp only [sm3, List.mem_cons, List.not_mem_nil, or_false] at hl
  rcases hl with rfl | rfl | rfl
  · exact sm_small (r := []) smF0 (List.mem_cons_self ..)
  · exact sm_small (r := []) smF1 (List.mem_cons_of_mem _ (List.mem_cons_self ..))
  · refine ⟨by decide, fun x hx => ?_⟩
    simp only [List.mem_cons, List.not_mem_nil, or_false] at hx
    rcases hx with rfl | rfl <;> decide
theorem sm4_small : ∀ l ∈ sm4.f, l.length ≤ 1000000 ∧ ∀ x ∈ l, x.t.length ≤ 1000000 := by
  intro l hl
  simp only [sm4, List.mem_cons, List.not_mem_nil, or_false] at hl
  rcases hl with rfl | rfl
  · have h0 := sm_small (r := []) smF0 (List.mem_cons_self ..)
    refine ⟨by decide, fun x hx => ?_⟩
    rcases List.mem_append.1 hx with hx | hx
    · exact h0.2 x hx
    · rw [List.mem_singleton.1 hx]; decide
  · exact sm_small (r := []) smF1 (List.mem_cons_of_mem _ (List.mem_cons_self ..))
theorem in_snoc (l : List Ins) (x : Ins) : inCells (l ++ [x]) = inCells l ++ insC x := by simp [inCells]
theorem act_put_none (a : Act) (v : Value) : a.put none v = a := rfl
theorem sm_text {f k : Nat} {y : Ins} (h : smAt f k = some y) : y.t.length ≤ 1000000 := by
  rcases sm_at h with h | h
  · exact (sm_small (r := []) smF0 (List.mem_cons_self ..)).2 y h
  · exact (sm_small (r := []) smF1 (List.mem_cons_of_mem _ (List.mem_cons_self ..))).2 y h
set_option maxHeartbeats 12000000 in
theorem law_spoilt (F A Q : Nat) (To : Int) (hF : F < 256) (hA : A < 256) (hQ : Q < 256) (W : World) (h : ∃ b fuel n, PrimsR W b fuel n) :
    Calls Tryd.prog 8 #[.agg #[.int .u8 (F : Nat), .int .u8 (A : Nat), .int .u8 (Q : Nat), .int .i64 To]] W fun e w' => e = .returned (.bool true) ∧ Below W.heap.size W w' := by
  obtain ⟨pb, fuel, pn, hP⟩ := h
  have HP0 := Lib.hid hP
  clear hP
  obtain ⟨kb, hkb⟩ : ∃ y, y = W.heap.size := ⟨_, rfl⟩
  obtain ⟨w1, hw1⟩ : ∃ y, y = W.alloc (.cells #[.int .u8 (F : Nat), .int .u8 (A : Nat), .int .u8 (Q : Nat), .int .i64 To] 56) := ⟨_, rfl⟩
  have HB1 : Hid (Below W.heap.size W w1) := Lib.hid (by rw [hw1]; exact (Below.refl _ _).alloc (Nat.le_refl _) _)
  have HX1 : Hid (Row w1 kb 56 [.int .u8 (F : Nat), .int .u8 (A : Nat), .int .u8 (Q : Nat), .int .i64 To]) := Lib.hid (by rw [hw1, hkb]; exact Row.new W _ _)
  have hs1 := small_p w1
  go_enter Tryd.func8, Tryd.ntmps8
  go_upto_region 1 with fail
  rw [← hw1, ← hkb]
  clear hw1 hkb
  go_upto_region 2 with fail
  refine hs1.mono ?_
  rintro e w2 ⟨rfl, hS2, hb2⟩
  clear hs1
  have HB2 := Lib.hid (HB1.out.trans (hb2.mono HB1.out.size))
  have HX2 := Lib.hid (HX1.out.after hb2)
  have hck := check_p W pb fuel pn HP0 _ _ _ _ _ _ _ w2 HB2 hS2.cod (by decide) sm_small (by decide) 0 (Lib.hid (sm_yes rooted_nil).symm)
  clear hb2 HB1 HX1 hS2
  go_upto_region 3 with fail
  refine hck.mono ?_
  rintro e w3 ⟨rfl, hb3⟩
  clear hck
  have HB3 := Lib.hid (HB2.out.trans (hb3.mono HB2.out.size))
  have HX3 := Lib.hid (HX2.out.after hb3)
  clear hb3 HB2 HX2
  have hs1 := small_p w3
  go_upto_region 4 with fail
  refine hs1.mono ?_
  rintro e w4 ⟨rfl, hS4, hb4⟩
  clear hs1
  have HB4 := Lib.hid (HB3.out.trans (hb4.mono HB3.out.size))
  have HX4 := Lib.hid (HX3.out.after hb4)
  have HS4 := Lib.hid hS4
  obtain ⟨b, hbq⟩ : ∃ y, y = w3.heap.size := ⟨_, rfl⟩
  rw [← hbq] at HS4 ⊢
  have HBB : Hid (W.heap.size ≤ b ∧ kb < b) := Lib.hid ⟨by rw [hbq]; exact HB3.out.size, by rw [hbq]; exact HX3.out.lt⟩
  clear hb4 hS4 hbq HB3 HX3
  go_upto_region 4 with fail
  obtain ⟨w5, hw5⟩ : ∃ y, y = w4.alloc (.cells #[.slice (some ⟨b + 3, 0, none⟩) 2 2, .slice none 0 0] 25) := ⟨_, rfl⟩
  have hb5 : Below w4.heap.size w4 w5 := by rw [hw5]; exact (Below.refl _ _).alloc (Nat.le_refl _) _
  obtain ⟨kc, hkc⟩ : ∃ y, y = w4.heap.size := ⟨_, rfl⟩
  have HR5 : Hid (Row w5 kc 25 [.slice (some ⟨b + 3, 0, none⟩) 2 2, .slice none 0 0]) := Lib.hid (by rw [hw5, hkc]; exact Row.new w4 _ _)
  have HKC : Hid (b + 3 < kc) := Lib.hid (by rw [hkc]; exact HS4.out.fs.lives _ rfl)
  rw [← hw5, ← hkc]
  have HB5 := Lib.hid (HB4.out.trans (hb5.mono HB4.out.size))
  have HX5 := Lib.hid (HX4.out.after hb5)
  have HS5 := Lib.hid (HS4.out.fresh hb5)
  clear hw5 hkc hb5 HB4 HX4 HS4
  have x0 : w5.cell? ⟨kb, 0, none⟩ = some (.int .u8 (F : Nat)) := HX5.out.cell 0
  obtain ⟨f, hf⟩ : ∃ y, y = F % 2 := ⟨_, rfl⟩
  have hf2 : f < 2 := by omega
  have hfi : (F : Int) % 2 = (f : Int) := by omega
  clear hf
  go_upto_region 5 with fail
  simp only [hfi]
  clear hfi x0
  obtain ⟨nf, hnf⟩ : ∃ y, y = (lfOf f).length := ⟨_, rfl⟩
  have HNF := Lib.hid hnf
  have hfn := HS5.out.fn hf2
  rw [← hnf] at hfn
  have hn0 : 0 < nf ∧ nf ≤ 9 := by rw [hnf]; unfold lfOf; split <;> decide
  obtain ⟨k, hk⟩ : ∃ y, y = A % nf := ⟨_, rfl⟩
  have hkn : k < nf := by rw [hk]; exact Nat.mod_lt _ hn0.1
  have hki : (A : Int) % (nf : Int) = (k : Int) := by rw [hk]; omega
  have hnz : ¬ nf = 0 := by omega
  have hf2' : (f : Int) < 2 := by omega
  have x1 : w5.cell? ⟨kb, 1, none⟩ = some (.int .u8 (A : Nat)) := HX5.out.cell 1
  have r0 : w5.cell? ⟨kc, 0, none⟩ = some (.slice (some ⟨b + 3, 0, none⟩) 2 2) := HR5.out.cell 0
  have g0 := hfn.2
  clear hfn hnf hk
  go_quiet (fail)
  simp only [hki]
  have hb6 : Below w5.heap.size w5 (w5.drewN nq) := below_drewN (Below.refl _ _) nq
  obtain ⟨w6, hw6⟩ : ∃ y, y = w5.drewN nq := ⟨_, rfl⟩
  rw [← hw6] at hb6 ⊢
  have HB6 := Lib.hid (HB5.out.trans (hb6.mono HB5.out.size))
  have HX6 := Lib.hid (HX5.out.after hb6)
  have HS6 := Lib.hid (HS5.out.fresh hb6)
  have HR6 := Lib.hid (HR5.out.after hb6)
  clear hw6 hb6 x1 r0 g0 hki HB5 HX5 HS5 HR5
  have hfn := HS6.out.fn hf2
  rw [← HNF.out] at hfn
  obtain ⟨b7, o7, y, e7, hy, hc7⟩ := hfn.1.sl.elem insC insC_len (by decide) k hkn
  cases e7
  have HY : Hid (smAt f k = some y) := Lib.hid (by rw [← lf_at]; exact hy)
  have d0 := hc7 0 _ rfl
  have d1 := hc7 1 _ rfl
  have d2 := hc7 2 _ rfl
  have d3 := hc7 3 _ rfl
  have d4 := hc7 4 _ rfl
  simp only [Nat.add_zero, Nat.zero_add] at d0 d1 d2 d3 d4
  have r0 : w6.cell? ⟨kc, 0, none⟩ = some (.slice (some ⟨b + 3, 0, none⟩) 2 2) := HR6.out.cell 0
  have g0 := hfn.2
  clear hfn hy hc7
  have hkn' : (k : Int) < nf := by omega
  go_upto_region 7 with fail
  obtain ⟨w7, hw7⟩ : ∃ v, v = w6.alloc (.cells #[.int .u8 (y.op.toNat : Int), .int .i64 y.a, .int .i64 y.b, .int .i64 y.c, .string (str y.t)] 46) := ⟨_, rfl⟩
  have hb7 : Below w6.heap.size w6 w7 := by rw [hw7]; exact (Below.refl _ _).alloc (Nat.le_refl _) _
  obtain ⟨kx, hkx⟩ : ∃ y, y = w6.heap.size := ⟨_, rfl⟩
  have HI7 : Hid (Row w7 kx 46 (insC y)) := Lib.hid (by rw [hw7, hkx]; exact Row.new w6 _ _)
  have HKX : Hid (kc < kx) := Lib.hid (by rw [hkx]; exact HR6.out.lt)
  rw [← hw7, ← hkx]
  have HB7 := Lib.hid (HB6.out.trans (hb7.mono HB6.out.size))
  have HX7 := Lib.hid (HX6.out.after hb7)
  have HS7 := Lib.hid (HS6.out.fresh hb7)
  have HR7 := Lib.hid (HR6.out.after hb7)
  clear hw7 hkx hb7 d0 d1 d2 d3 d4 r0 g0 HB6 HX6 HS6 HR6
  have x2 : w7.cell? ⟨kb, 2, none⟩ = some (.int .u8 (Q : Nat)) := HX7.out.cell 2
  obtain ⟨q, hq⟩ : ∃ y, y = Q % 7 := ⟨_, rfl⟩
  have hq7 : q < 7 := by omega
  have hqi : (Q : Int) % 7 = (q : Int) := by omega
  clear hq
  go_upto_block 0 with (fail)
  simp only [hqi]
  clear hqi x2
  have hcs : q = 0 ∨ q = 1 ∨ q = 2 ∨ q = 3 ∨ q = 4 ∨ q = 5 ∨ q = 6 := by omega
  clear hq7
  rcases hcs with rfl | rfl | rfl | rfl | rfl | rfl | rfl
  · obtain ⟨j, hj⟩ : ∃ v, v = A % 3 := ⟨_, rfl⟩
    have hj3 : j = 0 ∨ j = 1 ∨ j = 2 := (by omega)
    have hji : (A : Int) % 3 = (j : Int) := (by omega)
    clear hj
    have HI8 := Lib.hid (HI7.out.alloc (.cells #[.int .u8 0, .int .u8 26, .int .u8 255] 5))
    have HB8 := Lib.hid (HB7.out.alloc HB7.out.size (.cells #[.int .u8 0, .int .u8 26, .int .u8 255] 5))
    have hbb : Below w7.heap.size w7 (w7.alloc (.cells #[.int .u8 0, .int .u8 26, .int .u8 255] 5)) := (Below.refl _ _).alloc (Nat.le_refl _) _
    have HX8 := Lib.hid (HX7.out.after hbb)
    have HS8 := Lib.hid (HS7.out.fresh hbb)
    have HR8 := Lib.hid (HR7.out.after hbb)
    have hrb := Row.new w7 [.int .u8 0, .int .u8 26, .int .u8 255] 5
    have f0 : (w7.alloc (.cells #[.int .u8 0, .int .u8 26, .int .u8 255] 5)).frozen? ⟨kx, 0, none⟩ = false := HI8.out.free 0
    have c0 : (w7.alloc (.cells #[.int .u8 0, .int .u8 26, .int .u8 255] 5)).cell? ⟨kx, 0, none⟩ = some (.int .u8 (y.op.toNat : Int)) := HI8.out.cell 0
    have x1 : (w7.alloc (.cells #[.int .u8 0, .int .u8 26, .int .u8 255] 5)).cell? ⟨kb, 1, none⟩ = some (.int .u8 (A : Nat)) := HX8.out.cell 1
    have x1' : w7.cell? ⟨kb, 1, none⟩ = some (.int .u8 (A : Nat)) := HX7.out.cell 1
    have v0 : (w7.alloc (.cells #[.int .u8 0, .int .u8 26, .int .u8 255] 5)).cell? ⟨w7.heap.size, 0, none⟩ = some (.int .u8 0) := hrb.cell 0
    have v1 : (w7.alloc (.cells #[.int .u8 0, .int .u8 26, .int .u8 255] 5)).cell? ⟨w7.heap.size, 1, none⟩ = some (.int .u8 26) := hrb.cell 1
    have v2 : (w7.alloc (.cells #[.int .u8 0, .int .u8 26, .int .u8 255] 5)).cell? ⟨w7.heap.size, 2, none⟩ = some (.int .u8 255) := hrb.cell 2
    clear hbb hrb HB7 HX7 HS7 HR7 HI7
    rcases hj3 with rfl | rfl | rfl
    · go_upto_region 34 with fail
      clear f0 c0 x1 x1' v0 v1 v2 hji
      obtain ⟨w7, hw7⟩ : ∃ v, v = (World.alloc w7 (.cells #[.int .u8 0, .int .u8 26, .int .u8 255] 5)) := ⟨_, rfl⟩
      rw [← hw7] at HI8 HB8 HX8 HS8 HR8 ⊢
      clear hw7
      have HI7 := HI8
      have HB7 := HB8
      have HX7 := HX8
      have HS7 := HS8
      have HR7 := HR8
      clear HI8 HB8 HX8 HS8 HR8
      have hmv : Mods (fun g => g = kx) w7 (w7.setCell ⟨kx, 0, none⟩ (.int .u8 0)) := Mods.set _ _ _ _
      have HBv : Hid (Below W.heap.size W (w7.setCell ⟨kx, 0, none⟩ (.int .u8 0))) := Lib.hid (below_mods HB7.out hmv (fun g e => by have := HBB.out; have := HKC.out; have := HKX.out; omega) HB7.out.size)
      have HSv : Hid (SmS b b (w7.setCell ⟨kx, 0, none⟩ (.int .u8 0)) smF0 smF1 9 4 9 4) := Lib.hid (HS7.out.mods hmv (by have := HKC.out; have := HKX.out; omega) (by have := HKC.out; have := HKX.out; omega) (by have := HKC.out; have := HKX.out; omega))
      have HRv : Hid (Row (w7.setCell ⟨kx, 0, none⟩ (.int .u8 0)) kc 25 [.slice (some ⟨b + 3, 0, none⟩) 2 2, .slice none 0 0]) := Lib.hid (HR7.out.mods hmv (by have := HKX.out; omega))
      have HXv : Hid (Row (w7.setCell ⟨kx, 0, none⟩ (.int .u8 0)) kb 56 [.int .u8 (F : Nat), .int .u8 (A : Nat), .int .u8 (Q : Nat), .int .i64 To]) := Lib.hid (HX7.out.mods hmv (by have := HBB.out; have := HKC.out; have := HKX.out; omega))
      have HIv : Hid (Row (w7.setCell ⟨kx, 0, none⟩ (.int .u8 0)) kx 46 (insC ({ y with op := 0 }))) := Lib.hid (HI7.out.set 0 (.int .u8 0))
      obtain ⟨wv, hwv⟩ : ∃ v, v = w7.setCell ⟨kx, 0, none⟩ (.int .u8 0) := ⟨_, rfl⟩
      rw [← hwv] at HBv HSv HRv HXv HIv ⊢
      clear hmv hwv HB7 HS7 HR7 HX7 HI7
      have HE : Hid (checkE (smX f k { y with op := 0 }) = 17) := Lib.hid (smX_0 HY.out 0 (by decide))
      have HZT : Hid (({ y with op := 0 } : Ins).t.length ≤ 1000000) := Lib.hid (show y.t.length ≤ 1000000 from sm_text HY.out)
      have r0 := later_cell (show wv.cell? ⟨kc, 0, none⟩ = some (.slice (some ⟨b + 3, 0, none⟩) 2 2) from HRv.out.cell 0)
      have hfn := HSv.out.fn hf2
      rw [← HNF.out] at hfn
      have g0 := later_cell hfn.2
      have z0 := later_cell (show wv.cell? ⟨kx, 0, none⟩ = some (.int .u8 ((({ y with op := 0 } : Ins)).op.toNat : Int)) from HIv.out.cell 0)
      have z1 := later_cell (show wv.cell? ⟨kx, 1, none⟩ = some (.int .i64 (({ y with op := 0 } : Ins)).a) from HIv.out.cell 1)
      have z2 := later_cell (show wv.cell? ⟨kx, 2, none⟩ = some (.int .i64 (({ y with op := 0 } : Ins)).b) from HIv.out.cell 2)
      have z3 := later_cell (show wv.cell? ⟨kx, 3, none⟩ = some (.int .i64 (({ y with op := 0 } : Ins)).c) from HIv.out.cell 3)
      have z4 := later_cell (show wv.cell? ⟨kx, 4, none⟩ = some (.string (str (({ y with op := 0 } : Ins)).t)) from HIv.out.cell 4)
      have HOd := Lib.hid hfn.1.drew
      have HHD := Lib.hid (HSv.out.fresh (Below.refl wv.heap.size wv).drew)
      have HL : Hid (k * 5 + (insC ({ y with op := 0 } : Ins)).length ≤ (inCells (lfOf f)).length) := Lib.hid (by rw [flat_len insC 5 insC_len, ← HNF.out]; show k * 5 + 5 ≤ nf * 5; omega)
      clear hfn
      go_upto_region 34 with fail
      refine wp_region_idx Rb Rb_refl Rb_trans [(0,0),(0,1),(0,2),(0,3),(0,4),(0,5),(0,6),(0,7),(2,8)] (by kernel_rfl) (by kernel_rfl) (by kernel_rfl) ?_
      simp only [pickO, List.getD_cons_succ, List.getD_cons_zero]
      refine wpCan_seg 8 (by kernel_rfl) ?_
      simp only [List.take_succ_cons, List.take_zero, List.drop_succ_cons, List.drop_zero, List.map_cons, List.map_nil]
      iterate 8 (go_big_quiet_step (fail))
      refine wpQuiet_nil ?_
      clear r0 g0 z0 z1 z2 z3 z4
      refine wpCan_list (k := 1) (fun KK hK => ?_) (fun h => by cases h)
      refine wpL_storeOwnS rfl _ _ _ rfl (cs := insC ({ y with op := 0 } : Ins)) rfl rfl (by simp [insC, Value.oneCell']) (by kernel_rfl) HOd.out (k * 5) (by simp) HL.out ?_
      intro w8 hg8 ho8
      have HC8 : Hid (CodM w8 (.slice (some ⟨b + 3, 0, none⟩) 2 2) (.slice none 0 0) (smX f k ({ y with op := 0 } : Ins))) := Lib.hid (by
        rw [HNF.out] at ho8
        exact HHD.out.setF hf2 ({ y with op := 0 } : Ins) (by rw [← HNF.out]; exact hkn) hg8 ho8)
      have HR8 : Hid (Row w8 kc 25 [.slice (some ⟨b + 3, 0, none⟩) 2 2, .slice none 0 0]) := Lib.hid (HRv.out.drew.grown hg8 (fun e => by have := Option.some.inj e; have := HKC.out; omega))
      have HB8 : Hid (Below W.heap.size W w8) := Lib.hid (below_mods (HBv.out.trans ((Below.refl wv.heap.size wv).drew.mono HBv.out.size)) (Mods.grown hg8) (fun g e => by have := Option.some.inj e; have := HBB.out; omega) HBv.out.size)
      clear hg8 ho8 HOd HHD HL
      refine hK _ _ (fun h => by cases h) ?_
      clear hK KK
      unfold wpCan
      have c0 : w8.cell? ⟨kc, 0, none⟩ = some (.slice (some ⟨b + 3, 0, none⟩) 2 2) := HR8.out.cell 0
      have c1 : w8.cell? ⟨kc, 1, none⟩ = some (.slice none 0 0) := HR8.out.cell 1
      have hck := check_p W pb fuel pn HP0 _ _ _ _ _ _ _ w8 HB8 HC8.out (by decide) (smX_small HZT.out) (by decide) 17 (Lib.hid HE.out.symm)
      go_wp2_with fail
      refine hck.mono ?_
      rintro e w9 ⟨rfl, hb9⟩
      clear hck c0 c1
      have HB := Lib.hid (HB8.out.trans (hb9.mono HB8.out.size))
      clear hb9
      have hwk := works_p W pb fuel pn HP0 _ HB
      go_wp2_with fail
      refine hwk.mono ?_
      rintro e wz ⟨rfl, hbz⟩
      clear hwk
      go_wp2_with fail
      go_ret
      exact ⟨rfl, HB.out.trans (hbz.mono HB.out.size)⟩
    · go_upto_region 34 with fail
      clear f0 c0 x1 x1' v0 v1 v2 hji
      obtain ⟨w7, hw7⟩ : ∃ v, v = (World.alloc w7 (.cells #[.int .u8 0, .int .u8 26, .int .u8 255] 5)) := ⟨_, rfl⟩
      rw [← hw7] at HI8 HB8 HX8 HS8 HR8 ⊢
      clear hw7
      have HI7 := HI8
      have HB7 := HB8
      have HX7 := HX8
      have HS7 := HS8
      have HR7 := HR8
      clear HI8 HB8 HX8 HS8 HR8
      have hmv : Mods (fun g => g = kx) w7 (w7.setCell ⟨kx, 0, none⟩ (.int .u8 26)) := Mods.set _ _ _ _
      have HBv : Hid (Below W.heap.size W (w7.setCell ⟨kx, 0, none⟩ (.int .u8 26))) := Lib.hid (below_mods HB7.out hmv (fun g e => by have := HBB.out; have := HKC.out; have := HKX.out; omega) HB7.out.size)
      have HSv : Hid (SmS b b (w7.setCell ⟨kx, 0, none⟩ (.int .u8 26)) smF0 smF1 9 4 9 4) := Lib.hid (HS7.out.mods hmv (by have := HKC.out; have := HKX.out; omega) (by have := HKC.out; have := HKX.out; omega) (by have := HKC.out; have := HKX.out; omega))
      have HRv : Hid (Row (w7.setCell ⟨kx, 0, none⟩ (.int .u8 26)) kc 25 [.slice (some ⟨b + 3, 0, none⟩) 2 2, .slice none 0 0]) := Lib.hid (HR7.out.mods hmv (by have := HKX.out; omega))
      have HXv : Hid (Row (w7.setCell ⟨kx, 0, none⟩ (.int .u8 26)) kb 56 [.int .u8 (F : Nat), .int .u8 (A : Nat), .int .u8 (Q : Nat), .int .i64 To]) := Lib.hid (HX7.out.mods hmv (by have := HBB.out; have := HKC.out; have := HKX.out; omega))
      have HIv : Hid (Row (w7.setCell ⟨kx, 0, none⟩ (.int .u8 26)) kx 46 (insC ({ y with op := 26 }))) := Lib.hid (HI7.out.set 0 (.int .u8 26))
      obtain ⟨wv, hwv⟩ : ∃ v, v = w7.setCell ⟨kx, 0, none⟩ (.int .u8 26) := ⟨_, rfl⟩
      rw [← hwv] at HBv HSv HRv HXv HIv ⊢
      clear hmv hwv HB7 HS7 HR7 HX7 HI7
      have HE : Hid (checkE (smX f k { y with op := 26 }) = 17) := Lib.hid (smX_0 HY.out 26 (by decide))
      have HZT : Hid (({ y with op := 26 } : Ins).t.length ≤ 1000000) := Lib.hid (show y.t.length ≤ 1000000 from sm_text HY.out)
      have r0 := later_cell (show wv.cell? ⟨kc, 0, none⟩ = some (.slice (some ⟨b + 3, 0, none⟩) 2 2) from HRv.out.cell 0)
      have hfn := HSv.out.fn hf2
      rw [← HNF.out] at hfn
      have g0 := later_cell hfn.2
      have z0 := later_cell (show wv.cell? ⟨kx, 0, none⟩ = some (.int .u8 ((({ y with op := 26 } : Ins)).op.toNat : Int)) from HIv.out.cell 0)
      have z1 := later_cell (show wv.cell? ⟨kx, 1, none⟩ = some (.int .i64 (({ y with op := 26 } : Ins)).a) from HIv.out.cell 1)
      have z2 := later_cell (show wv.cell? ⟨kx, 2, none⟩ = some (.int .i64 (({ y with op := 26 } : Ins)).b) from HIv.out.cell 2)
      have z3 := later_cell (show wv.cell? ⟨kx, 3, none⟩ = some (.int .i64 (({ y with op := 26 } : Ins)).c) from HIv.out.cell 3)
      have z4 := later_cell (show wv.cell? ⟨kx, 4, none⟩ = some (.string (str (({ y with op := 26 } : Ins)).t)) from HIv.out.cell 4)
      have HOd := Lib.hid hfn.1.drew
      have HHD := Lib.hid (HSv.out.fresh (Below.refl wv.heap.size wv).drew)
      have HL : Hid (k * 5 + (insC ({ y with op := 26 } : Ins)).length ≤ (inCells (lfOf f)).length) := Lib.hid (by rw [flat_len insC 5 insC_len, ← HNF.out]; show k * 5 + 5 ≤ nf * 5; omega)
      clear hfn
      go_upto_region 34 with fail
      refine wp_region_idx Rb Rb_refl Rb_trans [(0,0),(0,1),(0,2),(0,3),(0,4),(0,5),(0,6),(0,7),(2,8)] (by kernel_rfl) (by kernel_rfl) (by kernel_rfl) ?_
      simp only [pickO, List.getD_cons_succ, List.getD_cons_zero]
      refine wpCan_seg 8 (by kernel_rfl) ?_
      simp only [List.take_succ_cons, List.take_zero, List.drop_succ_cons, List.drop_zero, List.map_cons, List.map_nil]
      iterate 8 (go_big_quiet_step (fail))
      refine wpQuiet_nil ?_
      clear r0 g0 z0 z1 z2 z3 z4
      refine wpCan_list (k := 1) (fun KK hK => ?_) (fun h => by cases h)
      refine wpL_storeOwnS rfl _ _ _ rfl (cs := insC ({ y with op := 26 } : Ins)) rfl rfl (by simp [insC, Value.oneCell']) (by kernel_rfl) HOd.out (k * 5) (by simp) HL.out ?_
      intro w8 hg8 ho8
      have HC8 : Hid (CodM w8 (.slice (some ⟨b + 3, 0, none⟩) 2 2) (.slice none 0 0) (smX f k ({ y with op := 26 } : Ins))) := Lib.hid (by
        rw [HNF.out] at ho8
        exact HHD.out.setF hf2 ({ y with op := 26 } : Ins) (by rw [← HNF.out]; exact hkn) hg8 ho8)
      have HR8 : Hid (Row w8 kc 25 [.slice (some ⟨b + 3, 0, none⟩) 2 2, .slice none 0 0]) := Lib.hid (HRv.out.drew.grown hg8 (fun e => by have := Option.some.inj e; have := HKC.out; omega))
      have HB8 : Hid (Below W.heap.size W w8) := Lib.hid (below_mods (HBv.out.trans ((Below.refl wv.heap.size wv).drew.mono HBv.out.size)) (Mods.grown hg8) (fun g e => by have := Option.some.inj e; have := HBB.out; omega) HBv.out.size)
      clear hg8 ho8 HOd HHD HL
      refine hK _ _ (fun h => by cases h) ?_
      clear hK KK
      unfold wpCan
      have c0 : w8.cell? ⟨kc, 0, none⟩ = some (.slice (some ⟨b + 3, 0, none⟩) 2 2) := HR8.out.cell 0
      have c1 : w8.cell? ⟨kc, 1, none⟩ = some (.slice none 0 0) := HR8.out.cell 1
      have hck := check_p W pb fuel pn HP0 _ _ _ _ _ _ _ w8 HB8 HC8.out (by decide) (smX_small HZT.out) (by decide) 17 (Lib.hid HE.out.symm)
      go_wp2_with fail
      refine hck.mono ?_
      rintro e w9 ⟨rfl, hb9⟩
      clear hck c0 c1
      have HB := Lib.hid (HB8.out.trans (hb9.mono HB8.out.size))
      clear hb9
      have hwk := works_p W pb fuel pn HP0 _ HB
      go_wp2_with fail
      refine hwk.mono ?_
      rintro e wz ⟨rfl, hbz⟩
      clear hwk
      go_wp2_with fail
      go_ret
      exact ⟨rfl, HB.out.trans (hbz.mono HB.out.size)⟩
    · go_upto_region 34 with fail
      clear f0 c0 x1 x1' v0 v1 v2 hji
      obtain ⟨w7, hw7⟩ : ∃ v, v = (World.alloc w7 (.cells #[.int .u8 0, .int .u8 26, .int .u8 255] 5)) := ⟨_, rfl⟩
      rw [← hw7] at HI8 HB8 HX8 HS8 HR8 ⊢
      clear hw7
      have HI7 := HI8
      have HB7 := HB8
      have HX7 := HX8
      have HS7 := HS8
      have HR7 := HR8
      clear HI8 HB8 HX8 HS8 HR8
      have hmv : Mods (fun g => g = kx) w7 (w7.setCell ⟨kx, 0, none⟩ (.int .u8 255)) := Mods.set _ _ _ _
      have HBv : Hid (Below W.heap.size W (w7.setCell ⟨kx, 0, none⟩ (.int .u8 255))) := Lib.hid (below_mods HB7.out hmv (fun g e => by have := HBB.out; have := HKC.out; have := HKX.out; omega) HB7.out.size)
      have HSv : Hid (SmS b b (w7.setCell ⟨kx, 0, none⟩ (.int .u8 255)) smF0 smF1 9 4 9 4) := Lib.hid (HS7.out.mods hmv (by have := HKC.out; have := HKX.out; omega) (by have := HKC.out; have := HKX.out; omega) (by have := HKC.out; have := HKX.out; omega))
      have HRv : Hid (Row (w7.setCell ⟨kx, 0, none⟩ (.int .u8 255)) kc 25 [.slice (some ⟨b + 3, 0, none⟩) 2 2, .slice none 0 0]) := Lib.hid (HR7.out.mods hmv (by have := HKX.out; omega))
      have HXv : Hid (Row (w7.setCell ⟨kx, 0, none⟩ (.int .u8 255)) kb 56 [.int .u8 (F : Nat), .int .u8 (A : Nat), .int .u8 (Q : Nat), .int .i64 To]) := Lib.hid (HX7.out.mods hmv (by have := HBB.out; have := HKC.out; have := HKX.out; omega))
      have HIv : Hid (Row (w7.setCell ⟨kx, 0, none⟩ (.int .u8 255)) kx 46 (insC ({ y with op := 255 }))) := Lib.hid (HI7.out.set 0 (.int .u8 255))
      obtain ⟨wv, hwv⟩ : ∃ v, v = w7.setCell ⟨kx, 0, none⟩ (.int .u8 255) := ⟨_, rfl⟩
      rw [← hwv] at HBv HSv HRv HXv HIv ⊢
      clear hmv hwv HB7 HS7 HR7 HX7 HI7
      have HE : Hid (checkE (smX f k { y with op := 255 }) = 17) := Lib.hid (smX_0 HY.out 255 (by decide))
      have HZT : Hid (({ y with op := 255 } : Ins).t.length ≤ 1000000) := Lib.hid (show y.t.length ≤ 1000000 from sm_text HY.out)
      have r0 := later_cell (show wv.cell? ⟨kc, 0, none⟩ = some (.slice (some ⟨b + 3, 0, none⟩) 2 2) from HRv.out.cell 0)
      have hfn := HSv.out.fn hf2
      rw [← HNF.out] at hfn
      have g0 := later_cell hfn.2
      have z0 := later_cell (show wv.cell? ⟨kx, 0, none⟩ = some (.int .u8 ((({ y with op := 255 } : Ins)).op.toNat : Int)) from HIv.out.cell 0)
      have z1 := later_cell (show wv.cell? ⟨kx, 1, none⟩ = some (.int .i64 (({ y with op := 255 } : Ins)).a) from HIv.out.cell 1)
      have z2 := later_cell (show wv.cell? ⟨kx, 2, none⟩ = some (.int .i64 (({ y with op := 255 } : Ins)).b) from HIv.out.cell 2)
      have z3 := later_cell (show wv.cell? ⟨kx, 3, none⟩ = some (.int .i64 (({ y with op := 255 } : Ins)).c) from HIv.out.cell 3)
      have z4 := later_cell (show wv.cell? ⟨kx, 4, none⟩ = some (.string (str (({ y with op := 255 } : Ins)).t)) from HIv.out.cell 4)
      have HOd := Lib.hid hfn.1.drew
      have HHD := Lib.hid (HSv.out.fresh (Below.refl wv.heap.size wv).drew)
      have HL : Hid (k * 5 + (insC ({ y with op := 255 } : Ins)).length ≤ (inCells (lfOf f)).length) := Lib.hid (by rw [flat_len insC 5 insC_len, ← HNF.out]; show k * 5 + 5 ≤ nf * 5; omega)
      clear hfn
      go_upto_region 34 with fail
      refine wp_region_idx Rb Rb_refl Rb_trans [(0,0),(0,1),(0,2),(0,3),(0,4),(0,5),(0,6),(0,7),(2,8)] (by kernel_rfl) (by kernel_rfl) (by kernel_rfl) ?_
      simp only [pickO, List.getD_cons_succ, List.getD_cons_zero]
      refine wpCan_seg 8 (by kernel_rfl) ?_
      simp only [List.take_succ_cons, List.take_zero, List.drop_succ_cons, List.drop_zero, List.map_cons, List.map_nil]
      iterate 8 (go_big_quiet_step (fail))
      refine wpQuiet_nil ?_
      clear r0 g0 z0 z1 z2 z3 z4
      refine wpCan_list (k := 1) (fun KK hK => ?_) (fun h => by cases h)
      refine wpL_storeOwnS rfl _ _ _ rfl (cs := insC ({ y with op := 255 } : Ins)) rfl rfl (by simp [insC, Value.oneCell']) (by kernel_rfl) HOd.out (k * 5) (by simp) HL.out ?_
      intro w8 hg8 ho8
      have HC8 : Hid (CodM w8 (.slice (some ⟨b + 3, 0, none⟩) 2 2) (.slice none 0 0) (smX f k ({ y with op := 255 } : Ins))) := Lib.hid (by
        rw [HNF.out] at ho8
        exact HHD.out.setF hf2 ({ y with op := 255 } : Ins) (by rw [← HNF.out]; exact hkn) hg8 ho8)
      have HR8 : Hid (Row w8 kc 25 [.slice (some ⟨b + 3, 0, none⟩) 2 2, .slice none 0 0]) := Lib.hid (HRv.out.drew.grown hg8 (fun e => by have := Option.some.inj e; have := HKC.out; omega))
      have HB8 : Hid (Below W.heap.size W w8) := Lib.hid (below_mods (HBv.out.trans ((Below.refl wv.heap.size wv).drew.mono HBv.out.size)) (Mods.grown hg8) (fun g e => by have := Option.some.inj e; have := HBB.out; omega) HBv.out.size)
      clear hg8 ho8 HOd HHD HL
      refine hK _ _ (fun h => by cases h) ?_
      clear hK KK
      unfold wpCan
      have c0 : w8.cell? ⟨kc, 0, none⟩ = some (.slice (some ⟨b + 3, 0, none⟩) 2 2) := HR8.out.cell 0
      have c1 : w8.cell? ⟨kc, 1, none⟩ = some (.slice none 0 0) := HR8.out.cell 1
      have hck := check_p W pb fuel pn HP0 _ _ _ _ _ _ _ w8 HB8 HC8.out (by decide) (smX_small HZT.out) (by decide) 17 (Lib.hid HE.out.symm)
      go_wp2_with fail
      refine hck.mono ?_
      rintro e w9 ⟨rfl, hb9⟩
      clear hck c0 c1
      have HB := Lib.hid (HB8.out.trans (hb9.mono HB8.out.size))
      clear hb9
      have hwk := works_p W pb fuel pn HP0 _ HB
      go_wp2_with fail
      refine hwk.mono ?_
      rintro e wz ⟨rfl, hbz⟩
      clear hwk
      go_wp2_with fail
      go_ret
      exact ⟨rfl, HB.out.trans (hbz.mono HB.out.size)⟩
  · have f4 : w7.frozen? ⟨kx, 4, none⟩ = false := HI7.out.free 4
    have c4 : w7.cell? ⟨kx, 4, none⟩ = some (.string (str y.t)) := HI7.out.cell 4
    go_upto_region 34 with fail
    clear f4 c4
    have hmv : Mods (fun g => g = kx) w7 (w7.setCell ⟨kx, 4, none⟩ (.string ⟨#[120]⟩)) := Mods.set _ _ _ _
    have HBv : Hid (Below W.heap.size W (w7.setCell ⟨kx, 4, none⟩ (.string ⟨#[120]⟩))) := Lib.hid (below_mods HB7.out hmv (fun g e => by have := HBB.out; have := HKC.out; have := HKX.out; omega) HB7.out.size)
    have HSv : Hid (SmS b b (w7.setCell ⟨kx, 4, none⟩ (.string ⟨#[120]⟩)) smF0 smF1 9 4 9 4) := Lib.hid (HS7.out.mods hmv (by have := HKC.out; have := HKX.out; omega) (by have := HKC.out; have := HKX.out; omega) (by have := HKC.out; have := HKX.out; omega))
    have HRv : Hid (Row (w7.setCell ⟨kx, 4, none⟩ (.string ⟨#[120]⟩)) kc 25 [.slice (some ⟨b + 3, 0, none⟩) 2 2, .slice none 0 0]) := Lib.hid (HR7.out.mods hmv (by have := HKX.out; omega))
    have HXv : Hid (Row (w7.setCell ⟨kx, 4, none⟩ (.string ⟨#[120]⟩)) kb 56 [.int .u8 (F : Nat), .int .u8 (A : Nat), .int .u8 (Q : Nat), .int .i64 To]) := Lib.hid (HX7.out.mods hmv (by have := HBB.out; have := HKC.out; have := HKX.out; omega))
    have HIv : Hid (Row (w7.setCell ⟨kx, 4, none⟩ (.string ⟨#[120]⟩)) kx 46 (insC ({ y with t := [120] }))) := Lib.hid (HI7.out.set 4 (.string ⟨#[120]⟩))
    obtain ⟨wv, hwv⟩ : ∃ v, v = w7.setCell ⟨kx, 4, none⟩ (.string ⟨#[120]⟩) := ⟨_, rfl⟩
    rw [← hwv] at HBv HSv HRv HXv HIv ⊢
    clear hmv hwv HB7 HS7 HR7 HX7 HI7
    have HE : Hid (checkE (smX f k { y with t := [120] }) = 17) := Lib.hid (smX_1 HY.out)
    have HZT : Hid (({ y with t := [120] } : Ins).t.length ≤ 1000000) := Lib.hid (show 1 ≤ 1000000 by decide)
    have r0 := later_cell (show wv.cell? ⟨kc, 0, none⟩ = some (.slice (some ⟨b + 3, 0, none⟩) 2 2) from HRv.out.cell 0)
    have hfn := HSv.out.fn hf2
    rw [← HNF.out] at hfn
    have g0 := later_cell hfn.2
    have z0 := later_cell (show wv.cell? ⟨kx, 0, none⟩ = some (.int .u8 ((({ y with t := [120] } : Ins)).op.toNat : Int)) from HIv.out.cell 0)
    have z1 := later_cell (show wv.cell? ⟨kx, 1, none⟩ = some (.int .i64 (({ y with t := [120] } : Ins)).a) from HIv.out.cell 1)
    have z2 := later_cell (show wv.cell? ⟨kx, 2, none⟩ = some (.int .i64 (({ y with t := [120] } : Ins)).b) from HIv.out.cell 2)
    have z3 := later_cell (show wv.cell? ⟨kx, 3, none⟩ = some (.int .i64 (({ y with t := [120] } : Ins)).c) from HIv.out.cell 3)
    have z4 := later_cell (show wv.cell? ⟨kx, 4, none⟩ = some (.string (str (({ y with t := [120] } : Ins)).t)) from HIv.out.cell 4)
    have HOd := Lib.hid hfn.1.drew
    have HHD := Lib.hid (HSv.out.fresh (Below.refl wv.heap.size wv).drew)
    have HL : Hid (k * 5 + (insC ({ y with t := [120] } : Ins)).length ≤ (inCells (lfOf f)).length) := Lib.hid (by rw [flat_len insC 5 insC_len, ← HNF.out]; show k * 5 + 5 ≤ nf * 5; omega)
    clear hfn
    go_upto_region 34 with fail
    refine wp_region_idx Rb Rb_refl Rb_trans [(0,0),(0,1),(0,2),(0,3),(0,4),(0,5),(0,6),(0,7),(2,8)] (by kernel_rfl) (by kernel_rfl) (by kernel_rfl) ?_
    simp only [pickO, List.getD_cons_succ, List.getD_cons_zero]
    refine wpCan_seg 8 (by kernel_rfl) ?_
    simp only [List.take_succ_cons, List.take_zero, List.drop_succ_cons, List.drop_zero, List.map_cons, List.map_nil]
    iterate 8 (go_big_quiet_step (fail))
    refine wpQuiet_nil ?_
    clear r0 g0 z0 z1 z2 z3 z4
    refine wpCan_list (k := 1) (fun KK hK => ?_) (fun h => by cases h)
    refine wpL_storeOwnS rfl _ _ _ rfl (cs := insC ({ y with t := [120] } : Ins)) rfl rfl (by simp [insC, Value.oneCell']) (by kernel_rfl) HOd.out (k * 5) (by simp) HL.out ?_
    intro w8 hg8 ho8
    have HC8 : Hid (CodM w8 (.slice (some ⟨b + 3, 0, none⟩) 2 2) (.slice none 0 0) (smX f k ({ y with t := [120] } : Ins))) := Lib.hid (by
      rw [HNF.out] at ho8
      exact HHD.out.setF hf2 ({ y with t := [120] } : Ins) (by rw [← HNF.out]; exact hkn) hg8 ho8)
    have HR8 : Hid (Row w8 kc 25 [.slice (some ⟨b + 3, 0, none⟩) 2 2, .slice none 0 0]) := Lib.hid (HRv.out.drew.grown hg8 (fun e => by have := Option.some.inj e; have := HKC.out; omega))
    have HB8 : Hid (Below W.heap.size W w8) := Lib.hid (below_mods (HBv.out.trans ((Below.refl wv.heap.size wv).drew.mono HBv.out.size)) (Mods.grown hg8) (fun g e => by have := Option.some.inj e; have := HBB.out; omega) HBv.out.size)
    clear hg8 ho8 HOd HHD HL
    refine hK _ _ (fun h => by cases h) ?_
    clear hK KK
    unfold wpCan
    have c0 : w8.cell? ⟨kc, 0, none⟩ = some (.slice (some ⟨b + 3, 0, none⟩) 2 2) := HR8.out.cell 0
    have c1 : w8.cell? ⟨kc, 1, none⟩ = some (.slice none 0 0) := HR8.out.cell 1
    have hck := check_p W pb fuel pn HP0 _ _ _ _ _ _ _ w8 HB8 HC8.out (by decide) (smX_small HZT.out) (by decide) 17 (Lib.hid HE.out.symm)
    go_wp2_with fail
    refine hck.mono ?_
    rintro e w9 ⟨rfl, hb9⟩
    clear hck c0 c1
    have HB := Lib.hid (HB8.out.trans (hb9.mono HB8.out.size))
    clear hb9
    have hwk := works_p W pb fuel pn HP0 _ HB
    go_wp2_with fail
    refine hwk.mono ?_
    rintro e wz ⟨rfl, hbz⟩
    clear hwk
    go_wp2_with fail
    go_ret
    exact ⟨rfl, HB.out.trans (hbz.mono HB.out.size)⟩
  · have f2 : w7.frozen? ⟨kx, 2, none⟩ = false := HI7.out.free 2
    have c2 : w7.cell? ⟨kx, 2, none⟩ = some (.int .i64 y.b) := HI7.out.cell 2
    have x3 : w7.cell? ⟨kb, 3, none⟩ = some (.int .i64 To) := HX7.out.cell 3
    go_upto_region 15 with fail
    clear f2 c2 x3
    have hmv : Mods (fun g => g = kx) w7 (w7.setCell ⟨kx, 2, none⟩ (.int .i64 To)) := Mods.set _ _ _ _
    have HBv : Hid (Below W.heap.size W (w7.setCell ⟨kx, 2, none⟩ (.int .i64 To))) := Lib.hid (below_mods HB7.out hmv (fun g e => by have := HBB.out; have := HKC.out; have := HKX.out; omega) HB7.out.size)
    have HSv : Hid (SmS b b (w7.setCell ⟨kx, 2, none⟩ (.int .i64 To)) smF0 smF1 9 4 9 4) := Lib.hid (HS7.out.mods hmv (by have := HKC.out; have := HKX.out; omega) (by have := HKC.out; have := HKX.out; omega) (by have := HKC.out; have := HKX.out; omega))
    have HRv : Hid (Row (w7.setCell ⟨kx, 2, none⟩ (.int .i64 To)) kc 25 [.slice (some ⟨b + 3, 0, none⟩) 2 2, .slice none 0 0]) := Lib.hid (HR7.out.mods hmv (by have := HKX.out; omega))
    have HXv : Hid (Row (w7.setCell ⟨kx, 2, none⟩ (.int .i64 To)) kb 56 [.int .u8 (F : Nat), .int .u8 (A : Nat), .int .u8 (Q : Nat), .int .i64 To]) := Lib.hid (HX7.out.mods hmv (by have := HBB.out; have := HKC.out; have := HKX.out; omega))
    have HIv : Hid (Row (w7.setCell ⟨kx, 2, none⟩ (.int .i64 To)) kx 46 (insC ({ y with b := To }))) := Lib.hid (HI7.out.set 2 (.int .i64 To))
    obtain ⟨wv, hwv⟩ : ∃ v, v = w7.setCell ⟨kx, 2, none⟩ (.int .i64 To) := ⟨_, rfl⟩
    rw [← hwv] at HBv HSv HRv HXv HIv ⊢
    clear hmv hwv HB7 HS7 HR7 HX7 HI7
    have x3 : wv.cell? ⟨kb, 3, none⟩ = some (.int .i64 To) := HXv.out.cell 3
    have o0 : wv.cell? ⟨kx, 0, none⟩ = some (.int .u8 (y.op.toNat : Int)) := HIv.out.cell 0
    by_cases hT : To = 0
    · have hTb : (To == 0) = true := (by rw [hT]; rfl)
      have HB := HBv
      clear hT
      have hwk := works_p W pb fuel pn HP0 _ HB
      go_wp2_with fail
      refine hwk.mono ?_
      rintro e wz ⟨rfl, hbz⟩
      clear hwk
      go_wp2_with fail
      go_ret
      exact ⟨rfl, HB.out.trans (hbz.mono HB.out.size)⟩
    · have hTb : (To == 0) = false := (by rw [beq_eq_false_iff_ne]; exact hT)
      by_cases h6 : y.op.toNat = 6
      · have h6b : ((y.op.toNat : Int) == 6) = true := (by rw [beq_iff_eq]; omega)
        have HB := HBv
        clear h6
        have hwk := works_p W pb fuel pn HP0 _ HB
        go_wp2_with fail
        refine hwk.mono ?_
        rintro e wz ⟨rfl, hbz⟩
        clear hwk
        go_wp2_with fail
        go_ret
        exact ⟨rfl, HB.out.trans (hbz.mono HB.out.size)⟩
      · have h6b : ((y.op.toNat : Int) == 6) = false := (by rw [beq_eq_false_iff_ne]; omega)
        have HE : Hid (checkE (smX f k { y with b := To }) = 17) := Lib.hid (smX_2 HY.out To hT h6)
        have HZT : Hid (({ y with b := To } : Ins).t.length ≤ 1000000) := Lib.hid (show y.t.length ≤ 1000000 from sm_text HY.out)
        clear hT h6
        have r0 := later_cell (show wv.cell? ⟨kc, 0, none⟩ = some (.slice (some ⟨b + 3, 0, none⟩) 2 2) from HRv.out.cell 0)
        have hfn := HSv.out.fn hf2
        rw [← HNF.out] at hfn
        have g0 := later_cell hfn.2
        have z0 := later_cell (show wv.cell? ⟨kx, 0, none⟩ = some (.int .u8 ((({ y with b := To } : Ins)).op.toNat : Int)) from HIv.out.cell 0)
        have z1 := later_cell (show wv.cell? ⟨kx, 1, none⟩ = some (.int .i64 (({ y with b := To } : Ins)).a) from HIv.out.cell 1)
        have z2 := later_cell (show wv.cell? ⟨kx, 2, none⟩ = some (.int .i64 (({ y with b := To } : Ins)).b) from HIv.out.cell 2)
        have z3 := later_cell (show wv.cell? ⟨kx, 3, none⟩ = some (.int .i64 (({ y with b := To } : Ins)).c) from HIv.out.cell 3)
        have z4 := later_cell (show wv.cell? ⟨kx, 4, none⟩ = some (.string (str (({ y with b := To } : Ins)).t)) from HIv.out.cell 4)
        have HOd := Lib.hid hfn.1.drew
        have HHD := Lib.hid (HSv.out.fresh (Below.refl wv.heap.size wv).drew)
        have HL : Hid (k * 5 + (insC ({ y with b := To } : Ins)).length ≤ (inCells (lfOf f)).length) := Lib.hid (by rw [flat_len insC 5 insC_len, ← HNF.out]; show k * 5 + 5 ≤ nf * 5; omega)
        clear hfn
        go_upto_region 34 with fail
        refine wp_region_idx Rb Rb_refl Rb_trans [(0,0),(0,1),(0,2),(0,3),(0,4),(0,5),(0,6),(0,7),(2,8)] (by kernel_rfl) (by kernel_rfl) (by kernel_rfl) ?_
        simp only [pickO, List.getD_cons_succ, List.getD_cons_zero]
        refine wpCan_seg 8 (by kernel_rfl) ?_
        simp only [List.take_succ_cons, List.take_zero, List.drop_succ_cons, List.drop_zero, List.map_cons, List.map_nil]
        iterate 8 (go_big_quiet_step (fail))
        refine wpQuiet_nil ?_
        clear r0 g0 z0 z1 z2 z3 z4
        refine wpCan_list (k := 1) (fun KK hK => ?_) (fun h => by cases h)
        refine wpL_storeOwnS rfl _ _ _ rfl (cs := insC ({ y with b := To } : Ins)) rfl rfl (by simp [insC, Value.oneCell']) (by kernel_rfl) HOd.out (k * 5) (by simp) HL.out ?_
        intro w8 hg8 ho8
        have HC8 : Hid (CodM w8 (.slice (some ⟨b + 3, 0, none⟩) 2 2) (.slice none 0 0) (smX f k ({ y with b := To } : Ins))) := Lib.hid (by
          rw [HNF.out] at ho8
          exact HHD.out.setF hf2 ({ y with b := To } : Ins) (by rw [← HNF.out]; exact hkn) hg8 ho8)
        have HR8 : Hid (Row w8 kc 25 [.slice (some ⟨b + 3, 0, none⟩) 2 2, .slice none 0 0]) := Lib.hid (HRv.out.drew.grown hg8 (fun e => by have := Option.some.inj e; have := HKC.out; omega))
        have HB8 : Hid (Below W.heap.size W w8) := Lib.hid (below_mods (HBv.out.trans ((Below.refl wv.heap.size wv).drew.mono HBv.out.size)) (Mods.grown hg8) (fun g e => by have := Option.some.inj e; have := HBB.out; omega) HBv.out.size)
        clear hg8 ho8 HOd HHD HL
        refine hK _ _ (fun h => by cases h) ?_
        clear hK KK
        unfold wpCan
        have c0 : w8.cell? ⟨kc, 0, none⟩ = some (.slice (some ⟨b + 3, 0, none⟩) 2 2) := HR8.out.cell 0
        have c1 : w8.cell? ⟨kc, 1, none⟩ = some (.slice none 0 0) := HR8.out.cell 1
        have hck := check_p W pb fuel pn HP0 _ _ _ _ _ _ _ w8 HB8 HC8.out (by decide) (smX_small HZT.out) (by decide) 17 (Lib.hid HE.out.symm)
        go_wp2_with fail
        refine hck.mono ?_
        rintro e w9 ⟨rfl, hb9⟩
        clear hck c0 c1
        have HB := Lib.hid (HB8.out.trans (hb9.mono HB8.out.size))
        clear hb9
        have hwk := works_p W pb fuel pn HP0 _ HB
        go_wp2_with fail
        refine hwk.mono ?_
        rintro e wz ⟨rfl, hbz⟩
        clear hwk
        go_wp2_with fail
        go_ret
        exact ⟨rfl, HB.out.trans (hbz.mono HB.out.size)⟩
  · have f3 : w7.frozen? ⟨kx, 3, none⟩ = false := HI7.out.free 3
    have c3 : w7.cell? ⟨kx, 3, none⟩ = some (.int .i64 y.c) := HI7.out.cell 3
    have x3 : w7.cell? ⟨kb, 3, none⟩ = some (.int .i64 To) := HX7.out.cell 3
    go_upto_region 19 with fail
    clear f3 c3 x3
    have hmv : Mods (fun g => g = kx) w7 (w7.setCell ⟨kx, 3, none⟩ (.int .i64 To)) := Mods.set _ _ _ _
    have HBv : Hid (Below W.heap.size W (w7.setCell ⟨kx, 3, none⟩ (.int .i64 To))) := Lib.hid (below_mods HB7.out hmv (fun g e => by have := HBB.out; have := HKC.out; have := HKX.out; omega) HB7.out.size)
    have HSv : Hid (SmS b b (w7.setCell ⟨kx, 3, none⟩ (.int .i64 To)) smF0 smF1 9 4 9 4) := Lib.hid (HS7.out.mods hmv (by have := HKC.out; have := HKX.out; omega) (by have := HKC.out; have := HKX.out; omega) (by have := HKC.out; have := HKX.out; omega))
    have HRv : Hid (Row (w7.setCell ⟨kx, 3, none⟩ (.int .i64 To)) kc 25 [.slice (some ⟨b + 3, 0, none⟩) 2 2, .slice none 0 0]) := Lib.hid (HR7.out.mods hmv (by have := HKX.out; omega))
    have HXv : Hid (Row (w7.setCell ⟨kx, 3, none⟩ (.int .i64 To)) kb 56 [.int .u8 (F : Nat), .int .u8 (A : Nat), .int .u8 (Q : Nat), .int .i64 To]) := Lib.hid (HX7.out.mods hmv (by have := HBB.out; have := HKC.out; have := HKX.out; omega))
    have HIv : Hid (Row (w7.setCell ⟨kx, 3, none⟩ (.int .i64 To)) kx 46 (insC ({ y with c := To }))) := Lib.hid (HI7.out.set 3 (.int .i64 To))
    obtain ⟨wv, hwv⟩ : ∃ v, v = w7.setCell ⟨kx, 3, none⟩ (.int .i64 To) := ⟨_, rfl⟩
    rw [← hwv] at HBv HSv HRv HXv HIv ⊢
    clear hmv hwv HB7 HS7 HR7 HX7 HI7
    have x3 : wv.cell? ⟨kb, 3, none⟩ = some (.int .i64 To) := HXv.out.cell 3
    have o0 : wv.cell? ⟨kx, 0, none⟩ = some (.int .u8 (y.op.toNat : Int)) := HIv.out.cell 0
    by_cases hT : To = 0
    · have hTb : (To == 0) = true := (by rw [hT]; rfl)
      have HB := HBv
      clear hT
      have hwk := works_p W pb fuel pn HP0 _ HB
      go_wp2_with fail
      refine hwk.mono ?_
      rintro e wz ⟨rfl, hbz⟩
      clear hwk
      go_wp2_with fail
      go_ret
      exact ⟨rfl, HB.out.trans (hbz.mono HB.out.size)⟩
    · have hTb : (To == 0) = false := (by rw [beq_eq_false_iff_ne]; exact hT)
      by_cases h6 : y.op.toNat = 6
      · have h6b : ((y.op.toNat : Int) == 6) = true := (by rw [beq_iff_eq]; omega)
        have HB := HBv
        clear h6
        have hwk := works_p W pb fuel pn HP0 _ HB
        go_wp2_with fail
        refine hwk.mono ?_
        rintro e wz ⟨rfl, hbz⟩
        clear hwk
        go_wp2_with fail
        go_ret
        exact ⟨rfl, HB.out.trans (hbz.mono HB.out.size)⟩
      · have h6b : ((y.op.toNat : Int) == 6) = false := (by rw [beq_eq_false_iff_ne]; omega)
        have HE : Hid (checkE (smX f k { y with c := To }) = 17) := Lib.hid (smX_3 HY.out To hT h6)
        have HZT : Hid (({ y with c := To } : Ins).t.length ≤ 1000000) := Lib.hid (show y.t.length ≤ 1000000 from sm_text HY.out)
        clear hT h6
        have r0 := later_cell (show wv.cell? ⟨kc, 0, none⟩ = some (.slice (some ⟨b + 3, 0, none⟩) 2 2) from HRv.out.cell 0)
        have hfn := HSv.out.fn hf2
        rw [← HNF.out] at hfn
        have g0 := later_cell hfn.2
        have z0 := later_cell (show wv.cell? ⟨kx, 0, none⟩ = some (.int .u8 ((({ y with c := To } : Ins)).op.toNat : Int)) from HIv.out.cell 0)
        have z1 := later_cell (show wv.cell? ⟨kx, 1, none⟩ = some (.int .i64 (({ y with c := To } : Ins)).a) from HIv.out.cell 1)
        have z2 := later_cell (show wv.cell? ⟨kx, 2, none⟩ = some (.int .i64 (({ y with c := To } : Ins)).b) from HIv.out.cell 2)
        have z3 := later_cell (show wv.cell? ⟨kx, 3, none⟩ = some (.int .i64 (({ y with c := To } : Ins)).c) from HIv.out.cell 3)
        have z4 := later_cell (show wv.cell? ⟨kx, 4, none⟩ = some (.string (str (({ y with c := To } : Ins)).t)) from HIv.out.cell 4)
        have HOd := Lib.hid hfn.1.drew
        have HHD := Lib.hid (HSv.out.fresh (Below.refl wv.heap.size wv).drew)
        have HL : Hid (k * 5 + (insC ({ y with c := To } : Ins)).length ≤ (inCells (lfOf f)).length) := Lib.hid (by rw [flat_len insC 5 insC_len, ← HNF.out]; show k * 5 + 5 ≤ nf * 5; omega)
        clear hfn
        go_upto_region 34 with fail
        refine wp_region_idx Rb Rb_refl Rb_trans [(0,0),(0,1),(0,2),(0,3),(0,4),(0,5),(0,6),(0,7),(2,8)] (by kernel_rfl) (by kernel_rfl) (by kernel_rfl) ?_
        simp only [pickO, List.getD_cons_succ, List.getD_cons_zero]
        refine wpCan_seg 8 (by kernel_rfl) ?_
        simp only [List.take_succ_cons, List.take_zero, List.drop_succ_cons, List.drop_zero, List.map_cons, List.map_nil]
        iterate 8 (go_big_quiet_step (fail))
        refine wpQuiet_nil ?_
        clear r0 g0 z0 z1 z2 z3 z4
        refine wpCan_list (k := 1) (fun KK hK => ?_) (fun h => by cases h)
        refine wpL_storeOwnS rfl _ _ _ rfl (cs := insC ({ y with c := To } : Ins)) rfl rfl (by simp [insC, Value.oneCell']) (by kernel_rfl) HOd.out (k * 5) (by simp) HL.out ?_
        intro w8 hg8 ho8
        have HC8 : Hid (CodM w8 (.slice (some ⟨b + 3, 0, none⟩) 2 2) (.slice none 0 0) (smX f k ({ y with c := To } : Ins))) := Lib.hid (by
          rw [HNF.out] at ho8
          exact HHD.out.setF hf2 ({ y with c := To } : Ins) (by rw [← HNF.out]; exact hkn) hg8 ho8)
        have HR8 : Hid (Row w8 kc 25 [.slice (some ⟨b + 3, 0, none⟩) 2 2, .slice none 0 0]) := Lib.hid (HRv.out.drew.grown hg8 (fun e => by have := Option.some.inj e; have := HKC.out; omega))
        have HB8 : Hid (Below W.heap.size W w8) := Lib.hid (below_mods (HBv.out.trans ((Below.refl wv.heap.size wv).drew.mono HBv.out.size)) (Mods.grown hg8) (fun g e => by have := Option.some.inj e; have := HBB.out; omega) HBv.out.size)
        clear hg8 ho8 HOd HHD HL
        refine hK _ _ (fun h => by cases h) ?_
        clear hK KK
        unfold wpCan
        have c0 : w8.cell? ⟨kc, 0, none⟩ = some (.slice (some ⟨b + 3, 0, none⟩) 2 2) := HR8.out.cell 0
        have c1 : w8.cell? ⟨kc, 1, none⟩ = some (.slice none 0 0) := HR8.out.cell 1
        have hck := check_p W pb fuel pn HP0 _ _ _ _ _ _ _ w8 HB8 HC8.out (by decide) (smX_small HZT.out) (by decide) 17 (Lib.hid HE.out.symm)
        go_wp2_with fail
        refine hck.mono ?_
        rintro e w9 ⟨rfl, hb9⟩
        clear hck c0 c1
        have HB := Lib.hid (HB8.out.trans (hb9.mono HB8.out.size))
        clear hb9
        have hwk := works_p W pb fuel pn HP0 _ HB
        go_wp2_with fail
        refine hwk.mono ?_
        rintro e wz ⟨rfl, hbz⟩
        clear hwk
        go_wp2_with fail
        go_ret
        exact ⟨rfl, HB.out.trans (hbz.mono HB.out.size)⟩
  · obtain ⟨kn, hkn9⟩ : ∃ v, v = w7.heap.size := ⟨_, rfl⟩
    have HKN9 := Lib.hid hkn9
    have HKN : Hid (kx < kn) := Lib.hid (by rw [hkn9]; exact HI7.out.lt)
    have ha : ∃ wa, wa = (w7.alloc (.cells #[.int .u8 3, .int .i64 0, .int .i64 0, .int .i64 0, .string ⟨#[]⟩, .int .u8 8, .int .i64 0, .int .i64 0, .int .i64 0, .string ⟨#[]⟩] 46)).alloc (.cells #[.slice (some ⟨w7.heap.size, 0, none⟩) 2 2] 44) ∧ Below w7.heap.size w7 wa ∧ Sl wa 5 (.slice (some ⟨w7.heap.size, 0, none⟩) 2 2) 2 (inCells [⟨3, 0, 0, 0, []⟩, ⟨8, 0, 0, 0, []⟩]) ∧ Sl wa 1 (.slice (some ⟨w7.heap.size + 1, 0, none⟩) 1 1) 1 [.slice (some ⟨w7.heap.size, 0, none⟩) 2 2] ∧ wa.heap.size = w7.heap.size + 2 := by
      refine ⟨_, rfl, ?_⟩
      obtain ⟨wb, hwb⟩ : ∃ v, v = w7.alloc (.cells #[.int .u8 3, .int .i64 0, .int .i64 0, .int .i64 0, .string ⟨#[]⟩, .int .u8 8, .int .i64 0, .int .i64 0, .int .i64 0, .string ⟨#[]⟩] 46) := ⟨_, rfl⟩
      have hs1 : Sl wb 5 (.slice (some ⟨w7.heap.size, 0, none⟩) 2 2) 2 (inCells [⟨3, 0, 0, 0, []⟩, ⟨8, 0, 0, 0, []⟩]) := by rw [hwb]; exact Sl.litS w7 (inCells [⟨3, 0, 0, 0, []⟩, ⟨8, 0, 0, 0, []⟩]) 46 5 2 rfl (by decide)
      have hb1 : Below w7.heap.size w7 wb := by rw [hwb]; exact (Below.refl _ _).alloc (Nat.le_refl _) _
      have e1 : wb.heap.size = w7.heap.size + 1 := by rw [hwb]; simp
      rw [← hwb]
      have hb2 : Below wb.heap.size wb (wb.alloc (.cells #[.slice (some ⟨w7.heap.size, 0, none⟩) 2 2] 44)) := (Below.refl _ _).alloc (Nat.le_refl _) _
      have hs2 := Sl.one wb (.slice (some ⟨w7.heap.size, 0, none⟩) 2 2) 44
      rw [e1] at hs2
      exact ⟨hb1.trans (hb2.mono (by omega)), hs1.below hb2, hs2, by simp [e1]⟩
    obtain ⟨wa, hwa, hba, hsn, hs1, hsz⟩ := ha
    have HBa := Lib.hid (HB7.out.trans (hba.mono HB7.out.size))
    have HSa := Lib.hid (HS7.out.fresh hba)
    have HRa := Lib.hid (HR7.out.after hba)
    have HSN := Lib.hid hsn
    have HS1 := Lib.hid hs1
    have HSZ : Hid (wa.heap.size = kn + 2) := Lib.hid (by rw [hkn9]; exact hsz)
    have hbsz : b ≤ wa.heap.size := (by have := HKC.out; have := HKX.out; have := HKN.out; have := HSZ.out; omega)
    obtain ⟨vS, hvS⟩ : ∃ v, v = Value.slice (some ⟨b + 3, 0, none⟩) 2 2 := ⟨_, rfl⟩
    have HVS := Lib.hid hvS
    have r0 : w7.cell? ⟨kc, 0, none⟩ = some vS := (by rw [hvS]; exact HR7.out.cell 0)
    have HFS : Hid (Own wa b 1 vS 2 [.slice (some ⟨b + 1, 0, none⟩) 9 9, .slice (some ⟨b + 2, 0, none⟩) 4 4]) := Lib.hid (by rw [hvS]; exact HSa.out.fs)
    have HVB : Hid (vS.ownBlock = some (b + 3)) := Lib.hid (by rw [hvS]; rfl)
    clear hba hsn hs1 hsz hvS hkn9
    go_upto_region 23 with (at_builtin; rw [← hwa]; clear hwa; refine wpL_appendX2 etFns rfl _ _ rfl HFS.out rfl HS1.out rfl (by simp [Value.oneCell']) (by decide) (by simp [maxLen]) hbsz ?_; intro v6 w6 ho6 hg6 hc6; obtain ⟨g6, o6, c6, rfl, hgb, hgl, hc3, hc4, _⟩ := ho6.open (by decide) (by decide); have r6 : w6.cell? ⟨kc, 0, none⟩ = some (.slice (some ⟨b + 3, 0, none⟩) 2 2) := (HRa.out.mods (Mods.grown hg6) (fun e => by rw [HVB.out] at e; have := Option.some.inj e; have := HKC.out; omega)).cell 0; have u6 : w6.frozen? ⟨kc, 0, none⟩ = false := (HRa.out.mods (Mods.grown hg6) (fun e => by rw [HVB.out] at e; have := Option.some.inj e; have := HKC.out; omega)).free 0)
    have hkk := HKN9.out
    have hm6 : Mods (fun g => g = b + 3) wa w6 := (Mods.grown hg6).mono (fun g e => by rw [HVB.out] at e; exact (Option.some.inj e).symm)
    have HG6 : Hid (g6 = b + 3 ∨ wa.heap.size ≤ g6) := Lib.hid (by
      rcases hc6 g6 rfl with e | e
      · rw [HVB.out] at e; exact .inl (Option.some.inj e).symm
      · exact .inr e)
    have hmv : Mods (fun g => g = kc) w6 (w6.setCell ⟨kc, 0, none⟩ (.slice (some ⟨g6, o6, none⟩) 3 c6)) := Mods.set _ _ _ _
    have HR6 : Hid (Row w6 kc 25 [.slice (some ⟨b + 3, 0, none⟩) 2 2, .slice none 0 0]) := Lib.hid (HRa.out.mods hm6 (by have := HKC.out; omega))
    obtain ⟨w8, hw8⟩ : ∃ v, v = w6.setCell ⟨kc, 0, none⟩ (.slice (some ⟨g6, o6, none⟩) 3 c6) := ⟨_, rfl⟩
    have HR8 : Hid (Row w8 kc 25 [(.slice (some ⟨g6, o6, none⟩) 3 c6), .slice none 0 0]) := Lib.hid (by rw [hw8]; exact HR6.out.set 0 _)
    rw [← hw8] at hmv ⊢
    have HBB1 := HBB.out
    have HKC1 := HKC.out
    have HKX1 := HKX.out
    have HKN1 := HKN.out
    have HSZ1 := HSZ.out
    have HG61 := HG6.out
    have F08 : Hid (Own w8 b 5 (Value.slice (some ⟨b + 1, 0, none⟩) 9 9) 9 (inCells smF0)) := Lib.hid ((HSa.out.f0.mods hm6 (fun g hg e => by have e2 : b + 1 = g := (by simpa [Value.ownBlock] using hg); omega)).mods hmv (fun g hg e => by have e2 : b + 1 = g := (by simpa [Value.ownBlock] using hg); omega))
    have F18 : Hid (Own w8 b 5 (Value.slice (some ⟨b + 2, 0, none⟩) 4 4) 4 (inCells smF1)) := Lib.hid ((HSa.out.f1.mods hm6 (fun g hg e => by have e2 : b + 2 = g := (by simpa [Value.ownBlock] using hg); omega)).mods hmv (fun g hg e => by have e2 : b + 2 = g := (by simpa [Value.ownBlock] using hg); omega))
    have SN8 : Hid (Sl w8 5 (Value.slice (some ⟨kn, 0, none⟩) 2 2) 2 (inCells [⟨3, 0, 0, 0, []⟩, ⟨8, 0, 0, 0, []⟩])) := Lib.hid (by rw [hkk]; exact (HSN.out.mods hm6 (fun g hg e => by have e2 : w7.heap.size = g := (by simpa [Value.ownBlock] using hg); omega)).mods hmv (fun g hg e => by have e2 : w7.heap.size = g := (by simpa [Value.ownBlock] using hg); omega))
    have FS8 : Hid (Own w8 b 1 (.slice (some ⟨g6, o6, none⟩) 3 c6) 3 [Value.slice (some ⟨b + 1, 0, none⟩) 9 9, Value.slice (some ⟨b + 2, 0, none⟩) 4 4, Value.slice (some ⟨kn, 0, none⟩) 2 2]) := Lib.hid (by rw [hkk]; exact ho6.mods hmv (fun g hg e => by have e2 : g6 = g := (by simpa [Value.ownBlock] using hg); omega))
    have HB8 : Hid (Below W.heap.size W w8) := Lib.hid (below_mods (below_mods HBa.out hm6 (fun g e => by omega) HBa.out.size) hmv (fun g e => by omega) (Nat.le_trans HBa.out.size hm6.size))
    clear hkk hmv hm6 hw8 hg6 ho6 hc6 r6 u6 r0 HR6 HBa HSa HRa HSN HS1 HFS HVS HVB hbsz HB7 HS7 HR7 HX7 HI7 hc4
    have r0 : w8.cell? ⟨kc, 0, none⟩ = some (.slice (some ⟨g6, o6, none⟩) 3 c6) := HR8.out.cell 0
    have r1 : w8.cell? ⟨kc, 1, none⟩ = some (.slice none 0 0) := HR8.out.cell 1
    have hck := check_p W pb fuel pn HP0 _ _ _ _ _ _ sm3 w8 HB8 ⟨⟨_, FS8.out.sl, .cons F08.out.sl (.cons F18.out.sl (.cons SN8.out .nil))⟩, Sl.nil w8 2⟩ (by decide) sm3_small (by decide) 17 (Lib.hid sm3_no.symm)
    go_upto_region 25 with fail
    refine hck.mono ?_
    rintro e w9 ⟨rfl, hb9⟩
    clear hck r0 r1
    have HR9 := Lib.hid (HR8.out.after hb9)
    have F09 := Lib.hid (F08.out.below hb9)
    have F19 := Lib.hid (F18.out.below hb9)
    have FS9 := Lib.hid (FS8.out.below hb9)
    have HB9 := Lib.hid (HB8.out.trans (hb9.mono HB8.out.size))
    have HG9 : Hid (g6 < w9.heap.size ∧ b + 3 < w9.heap.size) := Lib.hid ⟨FS9.out.lives _ rfl, by have := HR9.out.lt; omega⟩
    clear hb9 HR8 F08 F18 SN8 FS8 HB8
    go_upto_region 25 with fail
    have r0 : w9.cell? ⟨kc, 0, none⟩ = some (.slice (some ⟨g6, o6, none⟩) 3 c6) := HR9.out.cell 0
    have u0 : w9.frozen? ⟨kc, 0, none⟩ = false := HR9.out.free 0
    have hsl : ∀ wx : World, (Instr.slice 22 (.slice (some ⟨g6, o6, none⟩) 3 c6) none (some (.int .i64 2)) none).run Tryd.prog wx = .ok (.slice (some ⟨g6, o6, none⟩) 2 c6) wx := fun wx =>
      run_front wx Tryd.underlying22 (z := 1) (by kernel_rfl) g6 o6 3 c6 2 (by omega)
    go_upto_region 26 with fail
    have hmv : Mods (fun g => g = kc) w9 (w9.setCell ⟨kc, 0, none⟩ (.slice (some ⟨g6, o6, none⟩) 2 c6)) := Mods.set _ _ _ _
    obtain ⟨wb, hwb⟩ : ∃ v, v = w9.setCell ⟨kc, 0, none⟩ (.slice (some ⟨g6, o6, none⟩) 2 c6) := ⟨_, rfl⟩
    have HRb : Hid (Row wb kc 25 [(.slice (some ⟨g6, o6, none⟩) 2 c6), .slice none 0 0]) := Lib.hid (by rw [hwb]; exact HR9.out.set 0 _)
    rw [← hwb] at hmv ⊢
    have F0b : Hid (Own wb b 5 (Value.slice (some ⟨b + 1, 0, none⟩) 9 9) 9 (inCells smF0)) := Lib.hid (F09.out.mods hmv (fun g hg e => by have e2 : b + 1 = g := (by simpa [Value.ownBlock] using hg); omega))
    have F1b : Hid (Own wb b 5 (Value.slice (some ⟨b + 2, 0, none⟩) 4 4) 4 (inCells smF1)) := Lib.hid (F19.out.mods hmv (fun g hg e => by have e2 : b + 2 = g := (by simpa [Value.ownBlock] using hg); omega))
    have FSb : Hid (Own wb b 1 (.slice (some ⟨g6, o6, none⟩) 2 c6) 2 [Value.slice (some ⟨b + 1, 0, none⟩) 9 9, Value.slice (some ⟨b + 2, 0, none⟩) 4 4]) := Lib.hid ((FS9.out.front (m := 2) (by decide)).mods hmv (fun g hg e => by have e2 : g6 = g := (by simpa [Value.ownBlock] using hg); omega))
    have HBb : Hid (Below W.heap.size W wb) := Lib.hid (below_mods HB9.out hmv (fun g e => by omega) HB9.out.size)
    have HGb : Hid (g6 < wb.heap.size ∧ b + 3 < wb.heap.size) := Lib.hid (by have := HG9.out; have := hmv.size; omega)
    clear hmv hwb r0 u0 hsl HR9 F09 F19 FS9 HB9 HG9
    obtain ⟨vF, hvF⟩ : ∃ v, v = Value.slice (some ⟨b + 1, 0, none⟩) 9 9 := ⟨_, rfl⟩
    have HVF : Hid (vF.ownBlock = some (b + 1)) := Lib.hid (by rw [hvF]; rfl)
    have r0 := laterS_cell (B := b + 1) (show wb.cell? ⟨kc, 0, none⟩ = some (.slice (some ⟨g6, o6, none⟩) 2 c6) from HRb.out.cell 0) (by omega)
    have g0 := laterS_cell (B := b + 1) (show wb.cell? ⟨g6, o6, none⟩ = some vF from by rw [hvF]; exact FSb.out.get 0 (by simp)) (by omega)
    have HOF : Hid (Own (wb.drew.alloc (.cells #[.int .u8 6, .int .i64 1, .int .i64 1, .int .i64 0, .string ⟨#[]⟩] 46)) b 5 vF 9 (inCells smF0)) := Lib.hid (by rw [hvF]; exact F0b.out.drew.alloc _)
    have HOG := Lib.hid (Sl.litS wb.drew (insC sm4G) 46 5 1 rfl (by decide))
    have hbsz : b ≤ (wb.drew.alloc (.cells #[.int .u8 6, .int .i64 1, .int .i64 1, .int .i64 0, .string ⟨#[]⟩] 46)).heap.size := (by have h1 := HGb.out; have e : wb.drew.heap.size = wb.heap.size := rfl; simp; omega)
    clear hvF
    refine wp_region_idx (RsW (b + 1)) (RsW_refl _) (RsW_trans _) [(0,0),(0,1),(0,2),(0,3),(0,4),(0,5),(0,6),(1,7),(1,8),(0,9),(2,10)] (by kernel_rfl) (by kernel_rfl) (by kernel_rfl) ?_
    simp only [pickO, List.getD_cons_succ, List.getD_cons_zero]
    refine wpCan_seg 7 (by kernel_rfl) ?_
    simp only [List.take_succ_cons, List.take_zero, List.drop_succ_cons, List.drop_zero, List.map_cons, List.map_nil]
    iterate 7 (go_big_quiet_step (fail))
    refine wpQuiet_nil ?_
    refine wpCan_list (k := 0) (fun KK hK => ?_) (fun _ => RsW_refl _ _)
    go_wp2_with fail
    refine hK _ _ (fun _ => Mods.fresh ((Below.refl wb.drew.heap.size wb.drew).alloc (Nat.le_refl _) _) _) ?_
    clear hK KK
    refine wpCan_list (k := 0) (fun KK hK => ?_) (fun _ => RsW_refl _ _)
    go_wp2_with (at_builtin; refine wpL_appendX2 etIns rfl _ _ rfl HOF.out rfl HOG.out rfl (by simp [insC, Value.oneCell']) (by decide) (by simp [maxLen]) hbsz ?_; intro v9 wc ho9 hg9 hc9; obtain ⟨a9, c9, rfl⟩ := ho9.form)
    clear r0 g0
    have hmc : Mods (fun g => g = b + 1) wb wc := ((Mods.fresh (Below.refl wb.heap.size wb).drew _).trans (Mods.fresh ((Below.refl wb.drew.heap.size wb.drew).alloc (Nat.le_refl _) _) _)).trans ((Mods.grown hg9).mono (fun g e => by rw [HVF.out] at e; exact (Option.some.inj e).symm))
    have HV9 : Hid (∀ g, (Value.slice a9 (9 + 1) c9).ownBlock = some g → g = b + 1 ∨ wb.heap.size ≤ g) := Lib.hid (fun g hg => by
      rcases hc9 g hg with e | e
      · rw [HVF.out] at e; exact .inl (Option.some.inj e).symm
      · have e3 : wb.drew.heap.size = wb.heap.size := rfl
        simp at e
        exact .inr (by omega))
    have HO9 : Hid (Own wc b 5 (.slice a9 (9 + 1) c9) (9 + 1) (inCells (smF0 ++ [sm4G]))) := Lib.hid (by rw [in_snoc]; exact ho9)
    refine hK _ _ (fun _ => (Mods.grown hg9).mono (fun g e => by rw [HVF.out] at e; exact (Option.some.inj e).symm)) ?_
    clear hK KK
    have hFSc := FSb.out.mods hmc (fun g hg e => by have e2 : g6 = g := (by simpa [Value.ownBlock] using hg); omega)
    have FSc : Hid (Own wc b 1 (.slice (some ⟨g6, o6, none⟩) 2 c6) 2 [Value.slice (some ⟨b + 1, 0, none⟩) 9 9, Value.slice (some ⟨b + 2, 0, none⟩) 4 4]) := Lib.hid hFSc
    have F1c : Hid (Own wc b 5 (Value.slice (some ⟨b + 2, 0, none⟩) 4 4) 4 (inCells smF1)) := Lib.hid (F1b.out.mods hmc (fun g hg e => by have e2 : b + 2 = g := (by simpa [Value.ownBlock] using hg); omega))
    have HRc : Hid (Row wc kc 25 [(.slice (some ⟨g6, o6, none⟩) 2 c6), .slice none 0 0]) := Lib.hid (HRb.out.mods hmc (by omega))
    have HBc : Hid (Below W.heap.size W wc) := Lib.hid (below_mods HBb.out hmc (fun g e => by omega) HBb.out.size)
    clear hmc hg9 hc9 ho9 hFSc HOF HOG FSb F1b HRb HBb F0b hbsz
    refine wpCan_seg 1 (by kernel_rfl) ?_
    simp only [List.take_succ_cons, List.take_zero, List.drop_succ_cons, List.drop_zero, List.map_cons, List.map_nil]
    iterate 1 (go_big_quiet_step (fail))
    refine wpQuiet_nil ?_
    refine wpCan_list (k := 1) (fun KK hK => ?_) (fun h => by cases h)
    refine wpL_storeOwn (g := 0) rfl _ _ _ rfl rfl rfl rfl rfl (by kernel_rfl) FSc.out 0 rfl (by simp) ?_
    intro wd hgd hod
    have hmd : Mods (fun g => g = g6) wc wd := (Mods.grown hgd).mono (fun g e => (Option.some.inj e).symm)
    have HCd : Hid (CodM wd (.slice (some ⟨g6, o6, none⟩) 2 c6) (.slice none 0 0) sm4) := Lib.hid (by
      have h0 := HO9.out.mods hmd (fun g hg e => by
        have h2 := HGb.out
        rcases HV9.out g hg with e2 | e2 <;> omega)
      have h1 := F1c.out.mods hmd (fun g hg e => by have e2 : b + 2 = g := (by simpa [Value.ownBlock] using hg); omega)
      exact ⟨⟨_, hod.sl, .cons h0.sl (.cons h1.sl .nil)⟩, Sl.nil wd 2⟩)
    have HRd : Hid (Row wd kc 25 [(.slice (some ⟨g6, o6, none⟩) 2 c6), .slice none 0 0]) := Lib.hid (HRc.out.mods hmd (by omega))
    have HBd : Hid (Below W.heap.size W wd) := Lib.hid (below_mods HBc.out hmd (fun g e => by omega) HBc.out.size)
    clear hmd hgd hod HO9 HV9 FSc F1c HRc HBc HGb HVF
    refine hK _ _ (fun h => by cases h) ?_
    clear hK KK
    unfold wpCan
    have r0 : wd.cell? ⟨kc, 0, none⟩ = some (.slice (some ⟨g6, o6, none⟩) 2 c6) := HRd.out.cell 0
    have r1 : wd.cell? ⟨kc, 1, none⟩ = some (.slice none 0 0) := HRd.out.cell 1
    have hck := check_p W pb fuel pn HP0 _ _ _ _ _ _ sm4 wd HBd HCd.out (by decide) sm4_small (by decide) 17 (Lib.hid sm4_no.symm)
    go_wp2_with fail
    refine hck.mono ?_
    rintro e we ⟨rfl, hbe⟩
    clear hck r0 r1
    have HB := Lib.hid (HBd.out.trans (hbe.mono HBd.out.size))
    clear hbe
    have hwk := works_p W pb fuel pn HP0 _ HB
    go_wp2_with fail
    refine hwk.mono ?_
    rintro e wz ⟨rfl, hbz⟩
    clear hwk
    go_wp2_with fail
    go_ret
    exact ⟨rfl, HB.out.trans (hbz.mono HB.out.size)⟩
  · have hbb : Below w7.heap.size w7 (w7.alloc (.cells #[.string ⟨#[114]⟩, .string ⟨#[105, 110, 116]⟩, .string ⟨#[115]⟩, .string ⟨#[105, 110, 116]⟩] 48)) := (Below.refl _ _).alloc (Nat.le_refl _) _
    obtain ⟨wa, hwa⟩ : ∃ v, v = w7.alloc (.cells #[.string ⟨#[114]⟩, .string ⟨#[105, 110, 116]⟩, .string ⟨#[115]⟩, .string ⟨#[105, 110, 116]⟩] 48) := ⟨_, rfl⟩
    obtain ⟨kr, hkr⟩ : ∃ v, v = w7.heap.size := ⟨_, rfl⟩
    have HKR : Hid (kx < kr) := Lib.hid (by rw [hkr]; exact HI7.out.lt)
    have HOa : Hid (Own wa kr 2 (.slice (some ⟨kr, 0, none⟩) 2 2) 2 (stCells smR)) := Lib.hid (by rw [hwa, hkr]; exact own_new w7 (stCells smR) 48 2 2 (Nat.le_refl _) rfl (by decide))
    rw [← hwa] at hbb
    have HBa := Lib.hid (HB7.out.trans (hbb.mono HB7.out.size))
    have HSa := Lib.hid (HS7.out.fresh hbb)
    have HRa := Lib.hid (HR7.out.after hbb)
    have c1 : wa.cell? ⟨kc, 1, none⟩ = some (.slice none 0 0) := HRa.out.cell 1
    have f1 : wa.frozen? ⟨kc, 1, none⟩ = false := HRa.out.free 1
    have c1' : w7.cell? ⟨kc, 1, none⟩ = some (.slice none 0 0) := HR7.out.cell 1
    have f1' : w7.frozen? ⟨kc, 1, none⟩ = false := HR7.out.free 1
    clear hbb
    rw [hwa] at c1 f1
    rw [hkr] at HKR
    go_upto_region 30 with fail
    rw [← hwa, ← hkr]
    rw [← hkr] at HKR
    clear c1 f1 c1' f1' hwa hkr HB7 HS7 HR7 HX7 HI7
    have hmv : Mods (fun g => g = kc) wa (wa.setCell ⟨kc, 1, none⟩ (.slice (some ⟨kr, 0, none⟩) 2 2)) := Mods.set _ _ _ _
    have HBv : Hid (Below W.heap.size W (wa.setCell ⟨kc, 1, none⟩ (.slice (some ⟨kr, 0, none⟩) 2 2))) := Lib.hid (below_mods HBa.out hmv (fun g e => by have := HBB.out; have := HKC.out; omega) HBa.out.size)
    have HSv : Hid (SmS b b (wa.setCell ⟨kc, 1, none⟩ (.slice (some ⟨kr, 0, none⟩) 2 2)) smF0 smF1 9 4 9 4) := Lib.hid (HSa.out.mods hmv (by have := HKC.out; omega) (by have := HKC.out; omega) (by have := HKC.out; omega))
    have HRv : Hid (Row (wa.setCell ⟨kc, 1, none⟩ (.slice (some ⟨kr, 0, none⟩) 2 2)) kc 25 [.slice (some ⟨b + 3, 0, none⟩) 2 2, .slice (some ⟨kr, 0, none⟩) 2 2]) := Lib.hid (HRa.out.set 1 _)
    have HOv : Hid (Own (wa.setCell ⟨kc, 1, none⟩ (.slice (some ⟨kr, 0, none⟩) 2 2)) kr 2 (.slice (some ⟨kr, 0, none⟩) 2 2) 2 (stCells smR)) := Lib.hid (HOa.out.mods hmv (fun g hg e => by have := HOa.out.lt g hg; have := HKX.out; have := HKR.out; omega))
    obtain ⟨wv, hwv⟩ : ∃ v, v = wa.setCell ⟨kc, 1, none⟩ (.slice (some ⟨kr, 0, none⟩) 2 2) := ⟨_, rfl⟩
    rw [← hwv] at HBv HSv HRv HOv ⊢
    clear hmv hwv HBa HSa HRa HOa
    have c0 : wv.cell? ⟨kc, 0, none⟩ = some (.slice (some ⟨b + 3, 0, none⟩) 2 2) := HRv.out.cell 0
    have c1 : wv.cell? ⟨kc, 1, none⟩ = some (.slice (some ⟨kr, 0, none⟩) 2 2) := HRv.out.cell 1
    have hck := check_p W pb fuel pn HP0 _ _ _ _ _ _ (smC smR) wv HBv ⟨HSv.out.cod.1, HOv.out.sl⟩ (by decide) sm_small (by decide) 0 (Lib.hid smR_yes.symm)
    go_upto_region 32 with fail
    refine hck.mono ?_
    rintro e w8 ⟨rfl, hb8⟩
    clear hck c0 c1
    have HB8 := Lib.hid (HBv.out.trans (hb8.mono HBv.out.size))
    have HS8 := Lib.hid (HSv.out.fresh hb8)
    have HR8 := Lib.hid (HRv.out.after hb8)
    have HO8 := Lib.hid (HOv.out.below hb8)
    clear hb8 HBv HSv HRv HOv
    go_upto_region 32 with fail
    have c1 : w8.cell? ⟨kc, 1, none⟩ = some (.slice (some ⟨kr, 0, none⟩) 2 2) := HR8.out.cell 1
    have v2 : w8.cell? ⟨kr, 2, none⟩ = some (.string ⟨#[115]⟩) := HO8.out.get 2 (by decide)
    have g2 : w8.frozen? ⟨kr, 2, none⟩ = false := HO8.out.free 2 (by decide)
    go_upto_region 33 with fail
    clear c1 v2 g2
    have hmv : Mods (fun g => g = kr) w8 (w8.setCell ⟨kr, 2, none⟩ (.string ⟨#[114]⟩)) := Mods.set _ _ _ _
    have HB9 : Hid (Below W.heap.size W (w8.setCell ⟨kr, 2, none⟩ (.string ⟨#[114]⟩))) := Lib.hid (below_mods HB8.out hmv (fun g e => by have := HBB.out; have := HKC.out; have := HKX.out; have := HKR.out; omega) HB8.out.size)
    have HS9 : Hid (SmS b b (w8.setCell ⟨kr, 2, none⟩ (.string ⟨#[114]⟩)) smF0 smF1 9 4 9 4) := Lib.hid (HS8.out.mods hmv (by have := HKC.out; have := HKX.out; have := HKR.out; omega) (by have := HKC.out; have := HKX.out; have := HKR.out; omega) (by have := HKC.out; have := HKX.out; have := HKR.out; omega))
    have HR9 : Hid (Row (w8.setCell ⟨kr, 2, none⟩ (.string ⟨#[114]⟩)) kc 25 [.slice (some ⟨b + 3, 0, none⟩) 2 2, .slice (some ⟨kr, 0, none⟩) 2 2]) := Lib.hid (HR8.out.mods hmv (by have := HKX.out; have := HKR.out; omega))
    have HO9 : Hid (Own (w8.setCell ⟨kr, 2, none⟩ (.string ⟨#[114]⟩)) kr 2 (.slice (some ⟨kr, 0, none⟩) 2 2) 2 (stCells smR2)) := Lib.hid (by have h1 := HO8.out.set 2 (.string ⟨#[114]⟩); rw [Nat.zero_add] at h1; exact h1)
    obtain ⟨w9, hw9⟩ : ∃ v, v = w8.setCell ⟨kr, 2, none⟩ (.string ⟨#[114]⟩) := ⟨_, rfl⟩
    rw [← hw9] at HB9 HS9 HR9 HO9 ⊢
    clear hmv hw9 HB8 HS8 HR8 HO8
    have c0 : w9.cell? ⟨kc, 0, none⟩ = some (.slice (some ⟨b + 3, 0, none⟩) 2 2) := HR9.out.cell 0
    have c1 : w9.cell? ⟨kc, 1, none⟩ = some (.slice (some ⟨kr, 0, none⟩) 2 2) := HR9.out.cell 1
    have hck := check_p W pb fuel pn HP0 _ _ _ _ _ _ (smC smR2) w9 HB9 ⟨HS9.out.cod.1, HO9.out.sl⟩ (by decide) sm_small (by decide) 17 (Lib.hid smR_no.symm)
    go_wp2_with fail
    refine hck.mono ?_
    rintro e wb ⟨rfl, hbb⟩
    clear hck c0 c1
    have HB := Lib.hid (HB9.out.trans (hbb.mono HB9.out.size))
    clear hbb
    have hwk := works_p W pb fuel pn HP0 _ HB
    go_wp2_with fail
    refine hwk.mono ?_
    rintro e wz ⟨rfl, hbz⟩
    clear hwk
    go_wp2_with fail
    go_ret
    exact ⟨rfl, HB.out.trans (hbz.mono HB.out.size)⟩
  · have hri := HI7.out
    go_wp2_with (refine wpL_storeRow rfl _ _ _ rfl (cs := insC smN) rfl rfl hri (by kernel_rfl) rfl rfl ?_; intro wv hgv hrv)
    try dsimp only
    try simp only [act_put_none]
    have hmv : Mods (fun g => g = kx) w7 wv := (Mods.grown hgv).mono (fun g e => (Option.some.inj e).symm)
    have HBv : Hid (Below W.heap.size W wv) := Lib.hid (below_mods HB7.out hmv (fun g e => by have := HBB.out; have := HKC.out; have := HKX.out; omega) HB7.out.size)
    have HSv : Hid (SmS b b wv smF0 smF1 9 4 9 4) := Lib.hid (HS7.out.mods hmv (by have := HKC.out; have := HKX.out; omega) (by have := HKC.out; have := HKX.out; omega) (by have := HKC.out; have := HKX.out; omega))
    have HRv : Hid (Row wv kc 25 [.slice (some ⟨b + 3, 0, none⟩) 2 2, .slice none 0 0]) := Lib.hid (HR7.out.mods hmv (by have := HKX.out; omega))
    have HIv : Hid (Row wv kx 46 (insC smN)) := Lib.hid hrv
    clear hmv hgv hrv hri HB7 HS7 HR7 HX7 HI7
    have HE : Hid (checkE (smX f k smN) = 17) := Lib.hid (smX_6 HY.out)
    have HZT : Hid (smN.t.length ≤ 1000000) := Lib.hid (by decide)
    have r0 := later_cell (show wv.cell? ⟨kc, 0, none⟩ = some (.slice (some ⟨b + 3, 0, none⟩) 2 2) from HRv.out.cell 0)
    have hfn := HSv.out.fn hf2
    rw [← HNF.out] at hfn
    have g0 := later_cell hfn.2
    have z0 := later_cell (show wv.cell? ⟨kx, 0, none⟩ = some (.int .u8 ((smN).op.toNat : Int)) from HIv.out.cell 0)
    have z1 := later_cell (show wv.cell? ⟨kx, 1, none⟩ = some (.int .i64 (smN).a) from HIv.out.cell 1)
    have z2 := later_cell (show wv.cell? ⟨kx, 2, none⟩ = some (.int .i64 (smN).b) from HIv.out.cell 2)
    have z3 := later_cell (show wv.cell? ⟨kx, 3, none⟩ = some (.int .i64 (smN).c) from HIv.out.cell 3)
    have z4 := later_cell (show wv.cell? ⟨kx, 4, none⟩ = some (.string (str (smN).t)) from HIv.out.cell 4)
    have HOd := Lib.hid hfn.1.drew
    have HHD := Lib.hid (HSv.out.fresh (Below.refl wv.heap.size wv).drew)
    have HL : Hid (k * 5 + (insC smN).length ≤ (inCells (lfOf f)).length) := Lib.hid (by rw [flat_len insC 5 insC_len, ← HNF.out]; show k * 5 + 5 ≤ nf * 5; omega)
    clear hfn
    go_upto_region 34 with fail
    refine wp_region_idx Rb Rb_refl Rb_trans [(0,0),(0,1),(0,2),(0,3),(0,4),(0,5),(0,6),(0,7),(2,8)] (by kernel_rfl) (by kernel_rfl) (by kernel_rfl) ?_
    simp only [pickO, List.getD_cons_succ, List.getD_cons_zero]
    refine wpCan_seg 8 (by kernel_rfl) ?_
    simp only [List.take_succ_cons, List.take_zero, List.drop_succ_cons, List.drop_zero, List.map_cons, List.map_nil]
    iterate 8 (go_big_quiet_step (fail))
    refine wpQuiet_nil ?_
    clear r0 g0 z0 z1 z2 z3 z4
    refine wpCan_list (k := 1) (fun KK hK => ?_) (fun h => by cases h)
    refine wpL_storeOwnS rfl _ _ _ rfl (cs := insC smN) rfl rfl (by simp [insC, Value.oneCell']) (by kernel_rfl) HOd.out (k * 5) (by simp) HL.out ?_
    intro w8 hg8 ho8
    have HC8 : Hid (CodM w8 (.slice (some ⟨b + 3, 0, none⟩) 2 2) (.slice none 0 0) (smX f k smN)) := Lib.hid (by
      rw [HNF.out] at ho8
      exact HHD.out.setF hf2 smN (by rw [← HNF.out]; exact hkn) hg8 ho8)
    have HR8 : Hid (Row w8 kc 25 [.slice (some ⟨b + 3, 0, none⟩) 2 2, .slice none 0 0]) := Lib.hid (HRv.out.drew.grown hg8 (fun e => by have := Option.some.inj e; have := HKC.out; omega))
    have HB8 : Hid (Below W.heap.size W w8) := Lib.hid (below_mods (HBv.out.trans ((Below.refl wv.heap.size wv).drew.mono HBv.out.size)) (Mods.grown hg8) (fun g e => by have := Option.some.inj e; have := HBB.out; omega) HBv.out.size)
    clear hg8 ho8 HOd HHD HL
    refine hK _ _ (fun h => by cases h) ?_
    clear hK KK
    unfold wpCan
    have c0 : w8.cell? ⟨kc, 0, none⟩ = some (.slice (some ⟨b + 3, 0, none⟩) 2 2) := HR8.out.cell 0
    have c1 : w8.cell? ⟨kc, 1, none⟩ = some (.slice none 0 0) := HR8.out.cell 1
    have hck := check_p W pb fuel pn HP0 _ _ _ _ _ _ _ w8 HB8 HC8.out (by decide) (smX_small HZT.out) (by decide) 17 (Lib.hid HE.out.symm)
    go_wp2_with fail
    refine hck.mono ?_
    rintro e w9 ⟨rfl, hb9⟩
    clear hck c0 c1
    have HB := Lib.hid (HB8.out.trans (hb9.mono HB8.out.size))
    clear hb9
    have hwk := works_p W pb fuel pn HP0 _ HB
    go_wp2_with fail
    refine hwk.mono ?_
    rintro e wz ⟨rfl, hbz⟩
    clear hwk
    go_wp2_with fail
    go_ret
    exact ⟨rfl, HB.out.trans (hbz.mono HB.out.size)⟩
def VSpoil : World → List Value → UInt8 × UInt8 × UInt8 × Int → Prop := VRec4 1 1 1 1 VByte VByte VByte (VInt .i64)
theorem opensSpoil : Opens Tryd.prog 56 4 VSpoil := opens_rec4 Tryd.underlying56 (by kernel_rfl) rfl rfl rfl rfl rfl rfl rfl rfl (opens_byte Tryd.underlying5 (by kernel_rfl)) (opens_byte Tryd.underlying5 (by kernel_rfl)) (opens_byte Tryd.underlying5 (by kernel_rfl)) (opens_int Tryd.underlying2 (by kernel_rfl))
theorem spoilt_top (cs : Array Value) (d : UInt8 × UInt8 × UInt8 × Int) (W : World) (h0 : VSpoil W cs.toList d) (h : ∃ b fuel n, PrimsR W b fuel n) :
    Calls Tryd.prog 8 #[.agg cs] W fun e w' => e = .returned (.bool true) ∧ Below W.heap.size W w' := by
  obtain ⟨F, A, Q, To⟩ := d
  obtain ⟨c0, c1, c2, c3, hcs, _, _, _, _, v0, v1, v2, v3⟩ := h0
  obtain rfl : cs = #[.int .u8 (F.toNat : Nat), .int .u8 (A.toNat : Nat), .int .u8 (Q.toNat : Nat), .int .i64 To] := by
    rw [show c0 = [.int .u8 (F.toNat : Int)] from v0, show c1 = [.int .u8 (A.toNat : Int)] from v1, show c2 = [.int .u8 (Q.toNat : Int)] from v2, v3.1] at hcs
    cases cs; simp_all
  exact law_spoilt F.toNat A.toNat Q.toNat To (UInt8.toNat_lt _) (UInt8.toNat_lt _) (UInt8.toNat_lt _) W h
end Go.Proofs.YtoddklfblcfoiaaDoor
