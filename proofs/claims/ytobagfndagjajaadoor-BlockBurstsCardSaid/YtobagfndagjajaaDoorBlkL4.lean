/-
  BlockBursts, walked.
-/
import Derived.Test.YtobagfndagjajaaDoorBlkS
import Derived.Test.YtobagfndagjajaaDoorBlkU
import Derived.Test.YtobagfndagjajaaDoorGen
namespace Go.Proofs.YtobagfndagjajaaDoor
open Go.RowKit
set_option linter.unusedVariables false
set_option linter.unusedSimpArgs false

def VTwo (w : World) (cs : List Value) (d : Nat × Nat) : Prop := cs = [.int .u32 d.1, .int .u32 d.2] ∧ d.1 < 4294967296 ∧ d.2 < 4294967296
theorem opens_two {P : Program} {e f : TypeId} (ht : P.underlying e = some (.array 2 f)) (hc : P.cellsOf e = 2) (hf : P.underlying f = some (.int .u32)) (hcf : P.cellsOf f = 1) : Opens P e 2 VTwo :=
  ⟨hc, fun H enc w base held fuel cs x h => by
    obtain ⟨xs, m, rfl, _, hl, hx, hel⟩ := DataW.trod_array ht h
    rw [hc] at hl
    have h0 := hel 0 (by decide)
    have h1 := hel 1 (by decide)
    rw [hcf, List.getElem?_eq_getElem (by omega)] at h0 h1
    obtain ⟨z0, e0, _, w0⟩ := DataW.trod_int hf h0
    obtain ⟨z1, e1, _, w1⟩ := DataW.trod_int hf h1
    obtain ⟨p, hp, rfl⟩ := nat_u32 w0
    obtain ⟨q, hq, rfl⟩ := nat_u32 w1
    refine ⟨hl, (p, q), ?_, hp, hq⟩
    match cs, hl with
    | [u, v], _ =>
      simp at e0 e1
      rw [e0, e1]⟩
theorem okWide_arr {P : Program} {w : World} {r : Reach} {base : Nat} {t : TypeId} {v : Value} {k : Nat} {e : TypeId} (ht : P.underlying t = some (.array k e)) (h : Value.okWide P w r base t v) : ∃ cs, v = .agg cs ∧ cs.size = P.cellsOf t := by
  simp only [Value.okWide, ht] at h
  obtain ⟨cs, h1, h2, _⟩ := h
  exact ⟨cs, h1, h2⟩
set_option maxHeartbeats 8000000 in
theorem blockBursts_walk (K : UInt8) (a : Option Addr) (n c : Nat) (l : List UInt8) (p q : Nat) (hp : p < 4294967296) (hq : q < 4294967296) (w : World) (hl : Sl w 1 (.slice a n c) n (bvs l)) :
    Calls Tryd.prog 6 #[.int .u8 (K.toNat : Int), .slice a n c, .agg #[.int .u32 (p : Int), .int .u32 (q : Int)]] w fun e w' => e = .returned (.bool true) ∧ Below w.heap.size w w' := by
  have HN : Hid (l.length = n) := by have := hl.len.1; show _ = _; omega
  have hnm := hl.len.2.1
  obtain ⟨k, hk⟩ : ∃ k : Nat, k = K.toNat := ⟨_, rfl⟩
  rw [← hk]
  have hk9 : k < 256 := by rw [hk]; exact K.toNat_lt
  have HK : Hid (K.toNat = k) := hk.symm
  clear hk
  have hr0 := Row.new w [.int .u32 (p : Int), .int .u32 (q : Int)] 37
  have hb0 : Below w.heap.size w (w.alloc (.cells #[.int .u32 (p : Int), .int .u32 (q : Int)] 37)) := (Below.refl _ _).alloc (Nat.le_refl _) _
  go_enter Tryd.func6, Tryd.ntmps6
  by_cases hbig : 248 < n
  · have hbigi : (248 : Int) < n := by omega
    go_wp2_with fail
    refine (works_any _).mono ?_
    rintro e wZ ⟨rfl, hbZ⟩
    go_wp2_with fail
    go_ret
    exact ⟨rfl, hb0.trans (hbZ.mono hb0.size)⟩
  have hbigi : ¬ (248 : Int) < n := by omega
  by_cases h0 : K = 0
  · have hk0 : k = 0 := by rw [← HK.out, h0]; rfl
    have hki : ((k : Int) = 0) = True := eq_true (by omega)
    have hkb : ((k : Int) == 0) = true := by simp [hk0]
    clear hk0
    go_wp2_with fail
    refine (works_any _).mono ?_
    rintro e wZ ⟨rfl, hbZ⟩
    go_wp2_with fail
    go_ret
    exact ⟨rfl, hb0.trans (hbZ.mono hb0.size)⟩
  have hk0 : k ≠ 0 := by intro h; apply h0; rw [← HK.out] at h; exact UInt8.toNat_inj.1 h
  have hki : ¬ (k : Int) = 0 := by omega
  have hkb : ((k : Int) == 0) = false := by simp [hk0]
  obtain ⟨t, ht⟩ : ∃ t, t = p % 2048 := ⟨_, rfl⟩
  have ht9 : t < 2048 := by omega
  have hxt : ((p : Int).tmod 2048) = (t : Int) := by rw [ht, Int.tmod_eq_emod_of_nonneg (by omega)]; rfl
  have hxt2 : ((p : Int) % 2048) = (t : Int) := by rw [ht]; rfl
  clear ht
  go_wp2_with fail
  refine (seal_yes K k HK h0 a n c l _ (hl.below hb0) (by omega)).mono ?_
  rintro e w1 ⟨v1, rfl, ho1, hb1⟩
  obtain ⟨a1, c1, rfl⟩ := ho1.form
  have hr1 := hr0.after hb1
  have hB1 := hb0.trans (hb1.mono hb0.size)
  have d0 := hr1.cell 0
  have d1 := hr1.cell 1
  simp only [List.getElem?_cons_zero, List.getElem?_cons_succ] at d0 d1
  clear hr0 hb0 hb1
  go_wp2_with fail
  refine (Crc.burst_any2 a1 256 c1 (blkL K l) w1 t q ho1.sl (by decide) (by omega) hq).mono ?_
  rintro e w2 ⟨v2, rfl, ho2, hb2⟩
  replace ho2 := Own.ofRow ho2
  obtain ⟨a2, c2, rfl⟩ := ho2.form
  have hB2 := hB1.trans (hb2.mono hB1.size)
  have ho12 := ho1.below hb2
  have hlaw := burst_law K l h0 (by rw [HN.out]; omega) t q (by omega)
  clear d0 d1 hr1 ho1 hb2 hB1
  generalize Crc.burstTo (blkL K l) t q 32 = D at hlaw ho2
  by_cases hD : D = blkL K l
  · subst hD
    clear hlaw
    go_wp2_with fail
    refine (open_yes K k HK h0 a2 c2 n l w2 HN (by omega) ho2.sl).mono ?_
    rintro e w3 ⟨v3, rfl, ho3, hb3⟩
    obtain ⟨a3, c3, rfl⟩ := ho3.form
    have hB3 := hB2.trans (hb3.mono hB2.size)
    have q1 := ho12.below hb3
    have q2 := ho2.below hb3
    go_wp2_with fail
    refine (eqb_any a1 256 c1 a2 256 c2 _ _ w3 q1.sl q2.sl (by omega) (by omega)).mono ?_
    rintro e w4 ⟨rfl, hb4⟩
    rw [decide_eq_true rfl]
    have hB4 := hB3.trans (hb4.mono hB3.size)
    clear ho12 ho2 hB2 ho3 hb3 hB3 q1 q2 hb4
    go_wp2_with fail
    refine (works_any w4).mono ?_
    rintro e wZ ⟨rfl, hbZ⟩
    go_wp2_with fail
    go_ret
    exact ⟨rfl, (hB4).trans (hbZ.mono (hB4).size)⟩
  · have HO : Hid (opOk D = false) := by show _ = _; rw [hlaw]; exact decide_eq_false hD
    have HE : Hid (¬ blkL K l = D) := fun h => hD h.symm
    clear hlaw hD
    go_wp2_with fail
    refine (open_bad a2 256 c2 D w2 ho2.sl HO).mono ?_
    rintro e w3 ⟨v3, rfl, ho3, hb3⟩
    obtain ⟨a3, c3, rfl⟩ := ho3.form
    have hB3 := hB2.trans (hb3.mono hB2.size)
    have q1 := ho12.below hb3
    have q2 := ho2.below hb3
    go_wp2_with fail
    refine (eqb_any a1 256 c1 a2 256 c2 (blkL K l) D w3 q1.sl q2.sl (by omega) (by omega)).mono ?_
    rintro e w4 ⟨rfl, hb4⟩
    rw [decide_eq_false HE.out]
    have hB4 := hB3.trans (hb4.mono hB3.size)
    clear ho12 ho2 hB2 ho3 hb3 hB3 q1 q2 hb4
    go_wp2_with fail
    refine (works_any w4).mono ?_
    rintro e wZ ⟨rfl, hbZ⟩
    go_wp2_with fail
    go_ret
    exact ⟨rfl, (hB4).trans (hbZ.mono (hB4).size)⟩
theorem blockBursts_top (x : Int) (hx : (Lit.int .u8 x).wf = true) (a : Option Addr) (n c : Nat) (l : List UInt8) (cs : Array Value) (d : Nat × Nat) (w : World) (hl : Sl w 1 (.slice a n c) n (bvs l)) (hc : VTwo w cs.toList d) :
    Calls Tryd.prog 6 #[.int .u8 x, .slice a n c, .agg cs] w fun e w' => e = .returned (.bool true) ∧ Below w.heap.size w w' := by
  obtain ⟨K, rfl⟩ := u8_of hx
  obtain ⟨h1, h2, h3⟩ := hc
  obtain rfl : cs = #[.int .u32 (d.1 : Int), .int .u32 (d.2 : Int)] := by cases cs; simp_all
  exact blockBursts_walk K a n c l d.1 d.2 h2 h3 w hl
end Go.Proofs.YtobagfndagjajaaDoor
