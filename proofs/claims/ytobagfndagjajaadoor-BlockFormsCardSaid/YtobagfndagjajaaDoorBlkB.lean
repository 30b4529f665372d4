/-
  The document's Seal, walked.
-/
import Derived.Test.YtobagfndagjajaaDoorBlkA
import Derived.Test.YtobagfndagjajaaDoorOctRef
namespace Go.Proofs.YtobagfndagjajaaDoor
open Go.RowKit
set_option linter.unusedVariables false
set_option linter.unusedSimpArgs false

theorem putL2' (l : List UInt8) (x : Nat) : putL l x 2 = l ++ digs x 2 := by rw [putL, if_pos (by decide)]; rfl
set_option maxHeartbeats 4000000 in
theorem rseal_p (K : UInt8) (a : Option Addr) (n c : Nat) (b : List UInt8) (w : World) (hl : Sl w 1 (.slice a n c) n (bvs b)) (Q : List UInt8) (N : Nat) (E : Int) (H : Hid (Q = blkQ K b ∧ N = Q.length ∧ E = blkE K b)) :
    Calls Tryd.prog 12 #[.int .u8 (K.toNat : Int), .slice a n c] w fun e w' => ∃ v, e = .returned (.tuple #[v, .int .i64 E]) ∧ Own w' w.heap.size 1 v N (bvs Q) ∧ Below w.heap.size w w' := by
  have HN := Lib.hid hl.len.1
  have hnm := hl.len.2.1
  obtain ⟨k, hk⟩ : ∃ k : Nat, k = K.toNat := ⟨_, rfl⟩
  rw [← hk]
  have hk9 : k < 256 := by rw [hk]; exact K.toNat_lt
  have HK : Hid (K.toNat = k) := hk.symm
  clear hk
  have hbad : (k = 0 ∨ 248 < n) → E = 1 ∧ Q = [] ∧ N = 0 := by
    intro h
    have e1 : E = 1 := by
      rw [H.out.2.2, blkE, if_pos]
      rw [HN.out]
      rcases h with h | h
      · left; rw [← UInt8.toNat_inj, HK.out, h]; rfl
      · right; exact h
    have e2 : Q = [] := by rw [H.out.1, blkQ, ← H.out.2.2, if_neg (by rw [e1]; decide)]
    exact ⟨e1, e2, by rw [H.out.2.1, e2]; rfl⟩
  by_cases hk0 : k = 0
  · obtain ⟨e1, e2, e3⟩ := hbad (.inl hk0)
    subst hk0
    rw [e1, e2, e3]
    clear hbad e1 e2 e3
    go_enter Tryd.func12, Tryd.ntmps12
    go_wp2_with fail
    go_ret2
    exact ⟨_, rfl, Own.nil _ _ _, Below.refl _ _⟩
  have hk0' : ((k : Int) == 0) = false := by rw [beq_eq_false_iff_ne]; omega
  by_cases hbig : 248 < n
  · obtain ⟨e1, e2, e3⟩ := hbad (.inr hbig)
    have hbi : (248 : Int) < n := by omega
    rw [e1, e2, e3]
    clear hbad e1 e2 e3
    go_enter Tryd.func12, Tryd.ntmps12
    go_wp2_with fail
    go_ret2
    exact ⟨_, rfl, Own.nil _ _ _, Below.refl _ _⟩
  have hbi : ¬ (248 : Int) < n := by omega
  clear hbad
  have HE : Hid (E = 0 ∧ Q = blkL K b ∧ N = 256) := by
    have e1 : E = 0 := by
      rw [H.out.2.2, blkE, if_neg]
      rw [HN.out]
      rintro (h | h)
      · apply hk0; rw [← HK.out, h]; rfl
      · exact hbig h
    have e2 : Q = blkL K b := by rw [H.out.1, blkQ, ← H.out.2.2, if_pos e1]
    exact ⟨e1, e2, by rw [H.out.2.1, e2, blkL_len K b (by rw [HN.out]; omega)]⟩
  clear H
  go_enter Tryd.func12, Tryd.ntmps12
  have hr0 := Row.new w [.int .u8 (k : Int), .int .u8 0] 5
  have ho0 := own_row hr0 (base := w.heap.size) (Nat.le_refl _) (show 2 ≤ maxLen by decide)
  have hb0 : Below w.heap.size w (w.alloc (.cells #[.int .u8 (k : Int), .int .u8 0] 5)) := (Below.refl _ _).alloc (Nat.le_refl _) _
  simp only [List.length_cons, List.length_nil, Nat.zero_add, Nat.reduceAdd] at ho0
  have hc0 : Hid ([Value.int .u8 (k : Int), .int .u8 0] = bvs [K, 0]) := by show _ = _; simp [bvs, HK.out]
  have hput := rput_any (some ⟨w.heap.size, 0, none⟩) 2 2 [K, 0] (w.alloc (.cells #[.int .u8 (k : Int), .int .u8 0] 5)) n 2 (by rw [← hc0.out]; exact ho0.sl) (by decide) (by omega)
  rw [show putL [K, 0] n 2 = frontL K n from putL2' _ _, frontL_len] at hput
  have HPUT := Lib.hid hput
  clear hput hr0 ho0 hc0
  go_upto_region 4 with fail
  go_wp2_with fail
  refine HPUT.out.mono ?_
  rintro e w2 ⟨v2, rfl, ho2, hb2⟩
  obtain ⟨a2, c2, rfl⟩ := ho2.form
  have hB2 := hb0.trans (hb2.mono hb0.size)
  replace ho2 := ho2.mono (base' := w.heap.size) hb0.size
  have hl2 := hl.below hB2
  clear hb0 hb2 HPUT
  go_wp2_with (at_builtin; refine wpL_append etB rfl _ _ rfl ho2 rfl hl2 rfl (bvs_one _) (by omega) (by simp [maxLen]; omega) hB2.size ?_; intro v3 w3 ho3 hg3; have hB3 := below_own hB2 ho2 hg3 (Nat.le_refl _) hB2.size; clear hg3)
  obtain ⟨a3, c3, rfl⟩ := ho3.form
  rw [← bvs_append] at ho3
  have hfill := rfill_any a3 (4 + n) c3 (frontL K n ++ b) w3 252 ho3.sl
  have hblk := fill_blk K b (by rw [HN.out]; omega)
  rw [HN.out] at hblk
  have hP252 := blkP_len K b (by rw [HN.out]; omega)
  rw [hblk.1, hblk.2, hP252] at hfill
  have HFILL := Lib.hid hfill
  clear hfill hblk hP252 ho2 hl2 hB2
  refine HFILL.out.mono ?_
  rintro e w4 ⟨v4, rfl, ho4, hb4⟩
  obtain ⟨a4, c4, rfl⟩ := ho4.form
  have hB4 := hB3.trans (hb4.mono hB3.size)
  replace ho4 := ho4.mono (base' := w.heap.size) hB3.size
  clear ho3 hB3 hb4 HFILL
  go_wp2_with fail
  refine (rsum_any a4 252 c4 (blkP K b) w4 ho4.sl (by decide)).mono ?_
  rintro e w5 ⟨rfl, hb5⟩
  have ho5 := ho4.below hb5
  have hB5 := hB4.trans (hb5.mono hB4.size)
  have hs9 := sumN_lt (blkP K b)
  have hput := rput_any a4 252 c4 (blkP K b) w5 (sumN (blkP K b)) 4 ho5.sl (by decide) (by omega)
  rw [putL4, ← blkL, blkL_len K b (by rw [HN.out]; omega)] at hput
  have HP := Lib.hid hput
  clear hput ho4 hB4 hb5
  generalize sumN (blkP K b) = z at hs9 HP ⊢
  go_wp2_with fail
  refine HP.out.mono ?_
  rintro e w6 ⟨v6, rfl, ho6, hb6⟩
  go_wp2_with fail
  go_ret2
  obtain ⟨e1, e2, e3⟩ := HE.out
  rw [e1, e2, e3]
  exact ⟨_, rfl, ho6.mono hB5.size, hB5.trans (hb6.mono hB5.size)⟩
end Go.Proofs.YtobagfndagjajaaDoor
