/-
  What a block with a right sum is; the law's summed, walked.
-/
import Derived.Test.YtobagfndagjajaaDoorBlkS
import Derived.Test.YtobagfndagjajaaDoorOctRef
namespace Go.Proofs.YtobagfndagjajaaDoor
open Go.RowKit
set_option linter.unusedVariables false
set_option linter.unusedSimpArgs false

def sumL (p : List UInt8) : List UInt8 := p ++ digs (sumN p) 4
theorem sumL_len (p : List UInt8) : (sumL p).length = p.length + 4 := by rw [sumL, List.length_append, digs_length]
theorem getN_end (p : List UInt8) (h : p.length = 252) : getN (sumL p) 252 4 = sumN p := by
  have e := getN_at4 (sumL p) 252 4 rfl (by rw [sumL_len]; omega)
  have d : (sumL p).drop 252 = digs (sumN p) 4 := by rw [sumL, ← h, List.drop_left]
  rw [d, List.take_of_length_le (by rw [digs_length]; omega), leNd] at e
  have hs := sumN_lt p
  rw [Nat.mod_eq_of_lt (by omega)] at e
  exact e
theorem opOk_sumL (p : List UInt8) (h : p.length = 252) : opOk (sumL p) = (!decide (p.getD 0 0 = 0) && (decide (opN (sumL p) ≤ 248) && (decide (p.getD 1 0 = 0) && decide ((trimL (p.drop (4 + opN (sumL p)))).length = 0)))) := by
  have ht : (sumL p).take 252 = p := by rw [sumL, ← h, List.take_left]
  have h0 : ∀ i, i < 252 → (sumL p).getD i 0 = p.getD i 0 := fun i hi => by
    simp only [List.getD]
    rw [sumL, List.getElem?_append_left (by omega)]
  rw [opOk, opK, ht, h0 0 (by decide), h0 1 (by decide), getN_end p h, sumL_len, h]
  simp
theorem opN_sumL (p : List UInt8) (h : p.length = 252) : opN (sumL p) = (p.getD 2 0).toNat + 256 * (p.getD 3 0).toNat := by
  have h0 : ∀ i, i < 252 → (sumL p).getD i 0 = p.getD i 0 := fun i hi => by
    simp only [List.getD]
    rw [sumL, List.getElem?_append_left (by omega)]
  have e := getN_at4 (sumL p) 2 2 rfl (by rw [sumL_len]; omega)
  rw [leN_two _ _ (by rw [sumL_len]; omega), h0 2 (by decide), h0 3 (by decide)] at e
  exact e
theorem putL_sum (p : List UInt8) : putL p (sumN p) 4 = sumL p := by rw [putL4, sumL]
set_option maxHeartbeats 4000000 in
theorem summed_any (a : Option Addr) (c : Nat) (b : List UInt8) (w : World) (hl : Sl w 1 (.slice a 256 c) 256 (bvs b)) :
    Calls Tryd.prog 19 #[.slice a 256 c] w fun e w' => ∃ v, e = .returned v ∧ Own w' w.heap.size 1 v 256 (bvs (sumL (b.take 252))) ∧ Below w.heap.size w w' := by
  have hb : b.length = 256 := by have := hl.len.1; omega
  have hc256 := hl.len.2.2.1
  have hc9 := hl.len.2.2
  have HB := Lib.hid hb
  obtain ⟨g, o, rfl, _⟩ := hl.byte (k := 0) (by omega)
  have hf := hl.front (m := 252) (by decide)
  rw [Nat.mul_one, bvs_take] at hf
  have hci : (252 : Int) ≤ c := by omega
  have hcn : 252 ≤ c := by omega
  have hlen : (b.take 252).length = 252 := by rw [List.length_take, hb]; rfl
  have hL : (sumL (b.take 252)).length = 256 := by rw [sumL_len, hlen]
  have HL := Lib.hid hL
  clear hb hL hlen hc9
  have hB0 := Below.refl w.heap.size w
  go_enter Tryd.func19, Tryd.ntmps19
  go_wp2_with fail
  refine wp_region_lex Rb Rb_refl Rb_trans [0,0,0,0,1,0,1,0] (by kernel_rfl) (by kernel_rfl) ?_
  refine wpCan_seg 4 (by kernel_rfl) ?_
  simp only [List.zip_cons_cons, List.zip_nil_left, List.take_succ_cons, List.take_zero, List.drop_succ_cons, List.drop_zero, List.map_cons, List.map_nil]
  repeat (go_big_quiet_step (fail))
  refine wpQuiet_nil ?_
  refine wpCan_list (k := 0) (fun K hK => ?_) (fun _ => Rb_refl _)
  go_wp2_with fail
  refine (rsum_any _ 252 c (b.take 252) _ (hf.below hB0.drew) (by decide)).mono ?_
  rintro e w1 ⟨rfl, hb1⟩
  go_wp2_with fail
  refine hK _ _ (fun _ => hb1) ?_
  clear hK K
  have hB1 := hB0.drew.trans (hb1.mono hB0.size)
  have hf1 := hf.below hB1
  have hs9 := sumN_lt (b.take 252)
  have hput := rput_any (some ⟨g, o, none⟩) 252 c (b.take 252) w1 (sumN (b.take 252)) 4 hf1 (by decide) (by omega)
  rw [putL_sum, HL.out] at hput
  have HP := Lib.hid hput
  clear hput hb1 hB0 hf
  generalize sumN (b.take 252) = z at hs9 HP ⊢
  refine wpCan_seg 1 (by kernel_rfl) ?_
  simp only [List.zip_cons_cons, List.zip_nil_left, List.take_succ_cons, List.take_zero, List.drop_succ_cons, List.drop_zero, List.map_cons, List.map_nil]
  repeat (go_big_quiet_step (fail))
  refine wpQuiet_nil ?_
  refine wpCan_list (k := 0) (fun K hK => ?_) (fun _ => Rb_refl _)
  go_wp2_with fail
  refine HP.out.mono ?_
  rintro e w2 ⟨v2, rfl, ho2, hb2⟩
  obtain ⟨a2, c2, rfl⟩ := ho2.form
  go_wp2_with fail
  refine hK _ _ (fun _ => hb2) ?_
  clear hK K HP
  have hB2 := hB1.trans (hb2.mono hB1.size)
  replace ho2 := ho2.mono (base' := w.heap.size) hB1.size
  have k1 := conv_later ho2.sl
  refine wpCan_seg 1 (by kernel_rfl) ?_
  simp only [List.zip_cons_cons, List.zip_nil_left, List.take_succ_cons, List.take_zero, List.drop_succ_cons, List.drop_zero, List.map_cons, List.map_nil]
  repeat (go_big_quiet_step (fail))
  refine wpQuiet_nil ?_
  unfold wpCan
  clear k1
  go_wp2_with fail
  go_ret
  exact ⟨_, rfl, ho2, hB2⟩
end Go.Proofs.YtobagfndagjajaaDoor
