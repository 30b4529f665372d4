/-
  The sums; block's front and Seal, walked.
-/
import Derived.Test.YtobagfndagjajaaDoorCrcW3
import Derived.Test.YtobagfndagjajaaDoorCrcP4
import Derived.Test.YtobagfndagjajaaDoorOctR
import Derived.Test.YtobagfndagjajaaDoorStore
import Derived.Deep.Cut
namespace Go.Proofs.YtobagfndagjajaaDoor
open Go.RowKit
set_option linter.unusedVariables false
set_option linter.unusedSimpArgs false

def sumN (l : List UInt8) : Nat := Crc.extend 0 l
theorem sumN_lt (l : List UInt8) : sumN l < 4294967296 := Crc.extend_lt 0 l
theorem sum_any (a : Option Addr) (n c : Nat) (l : List UInt8) (w : World) (hl : Sl w 1 (.slice a n c) n (bvs l)) :
    Calls Tryd.prog 26 #[.slice a n c] w fun e w' => e = .returned (.int .u32 (sumN l : Nat)) ∧ Below w.heap.size w w' := Crc.crcSum_any a n c l w hl
theorem rsum_any (a : Option Addr) (n c : Nat) (l : List UInt8) (w : World) (hl : Sl w 1 (.slice a n c) n (bvs l)) (hsz : n ≤ 10000) :
    Calls Tryd.prog 29 #[.slice a n c] w fun e w' => e = .returned (.int .u32 (sumN l : Nat)) ∧ Below w.heap.size w w' := by
  have h := Crc.refSum_any a n c l w hl hsz
  rw [← Crc.extend_ref 0 l (by decide)] at h
  exact h
/-- the first bytes -/
def frontL (K : UInt8) (n : Nat) : List UInt8 := [K, 0] ++ digs n 2
def blkP (K : UInt8) (b : List UInt8) : List UInt8 := frontL K b.length ++ b ++ List.replicate (248 - b.length) 0
def blkL (K : UInt8) (b : List UInt8) : List UInt8 := blkP K b ++ digs (sumN (blkP K b)) 4
def blkE (K : UInt8) (b : List UInt8) : Int := if K = 0 ∨ 248 < b.length then 1 else 0
def blkQ (K : UInt8) (b : List UInt8) : List UInt8 := if blkE K b = 0 then blkL K b else []
theorem frontL_len (K : UInt8) (n : Nat) : (frontL K n).length = 4 := by simp [frontL, digs_length]
theorem blkP_len (K : UInt8) (b : List UInt8) (h : b.length ≤ 248) : (blkP K b).length = 252 := by
  rw [blkP, List.length_append, List.length_append, frontL_len, List.length_replicate]; omega
theorem blkL_len (K : UInt8) (b : List UInt8) (h : b.length ≤ 248) : (blkL K b).length = 256 := by
  rw [blkL, List.length_append, blkP_len K b h, digs_length]
theorem fill_blk (K : UInt8) (b : List UInt8) (h : b.length ≤ 248) : fillL (frontL K b.length ++ b) 252 = blkP K b ∧ fillIs (frontL K b.length ++ b) 252 = true := by
  have hl : (frontL K b.length ++ b).length = 4 + b.length := by rw [List.length_append, frontL_len]
  have hi : fillIs (frontL K b.length ++ b) 252 = true := by
    rw [fillIs, hl]; simp; omega
  refine ⟨?_, hi⟩
  have e : (252 : Int).toNat = 252 := rfl
  rw [fillL, if_pos hi, hl, blkP, e, show 252 - (4 + b.length) = 248 - b.length by omega]
theorem putL4 (l : List UInt8) (x : Nat) : putL l x 4 = l ++ digs x 4 := by rw [putL, if_pos (by decide)]; rfl
theorem front_cells (K : UInt8) (n : Nat) (h : n < 65536) : [Value.int .u8 (K.toNat : Int), .int .u8 0, .int .u8 ((n : Int) % 256), .int .u8 ((n : Int) / 256)] = bvs (frontL K n) := by
  have e : digs n 2 = [UInt8.ofNat (n % 256), UInt8.ofNat (n / 256 % 256)] := by simp [digs, List.range_succ]
  simp [frontL, e, bvs]
  omega
theorem own_row {w : World} {base g : Nat} {e : TypeId} {xs : List Value} (hr : Row w g e xs) (hb : base ≤ g) (hm : xs.length ≤ maxLen) : Own w base 1 (.slice (some ⟨g, 0, none⟩) xs.length xs.length) xs.length xs := by
  refine ⟨by simp, .inr ⟨g, 0, xs.length, rfl, hb, hr.lt, Nat.le_refl _, hm, fun j hj => ?_, fun j u hu => ?_⟩⟩
  · rw [Nat.zero_add, hr.cell, List.getElem?_eq_getElem (by omega)]
    exact ⟨rfl, hr.free j⟩
  · rw [Nat.zero_add, hr.cell]; exact hu
theorem front_any (k n : Nat) (hk : k < 256) (hn : n < 65536) (w : World) :
    Calls Tryd.prog 23 #[.int .u8 k, .int .i64 n] w fun e w' => e = .returned (.agg #[.int .u8 k, .int .u8 0, .int .u8 ((n : Int) % 256), .int .u8 ((n : Int) / 256)]) ∧ Below w.heap.size w w' := by
  go_enter Tryd.func23, Tryd.ntmps23
  have hr0 := Row.new w [.int .u8 0, .int .u8 0, .int .u8 0, .int .u8 0] 47
  have hb0 : Below w.heap.size w (w.alloc (.cells #[.int .u8 0, .int .u8 0, .int .u8 0, .int .u8 0] 47)) := (Below.refl _ _).alloc (Nat.le_refl _) _
  go_wp2_with (refine wpL_storeRow rfl _ _ _ rfl (cs := [.int .u8 k, .int .u8 0, .int .u8 ((n : Int) % 256), .int .u8 ((n : Int) / 256)]) rfl rfl hr0 (by kernel_rfl) rfl rfl ?_; intro w2 hg2 hr2)
  try simp only [Exit.inBlock, Exit.then]
  refine bodyPost_ret (results_cell_row (P := Tryd.prog) rfl _ _ _ 47 #[.int .u8 k, .int .u8 0, .int .u8 ((n : Int) % 256), .int .u8 ((n : Int) / 256)] (0, 0) _ rfl hr2 Tryd.underlying47 rfl (by kernel_rfl)) rfl ?_
  exact ⟨rfl, hb0.grown hg2 hb0.size (fun g e => by cases e; exact Nat.le_refl _)⟩
set_option maxHeartbeats 4000000 in
theorem seal_p (K : UInt8) (a : Option Addr) (n c : Nat) (b : List UInt8) (w : World) (hl : Sl w 1 (.slice a n c) n (bvs b)) (Q : List UInt8) (N : Nat) (E : Int) (H : Hid (Q = blkQ K b ∧ N = Q.length ∧ E = blkE K b)) :
    Calls Tryd.prog 11 #[.int .u8 (K.toNat : Int), .slice a n c] w fun e w' => ∃ v, e = .returned (.tuple #[v, .int .i64 E]) ∧ Own w' w.heap.size 1 v N (bvs Q) ∧ Below w.heap.size w w' := by
  have HN := Lib.hid hl.len.1
  have hnm := hl.len.2.1
  obtain ⟨k, hk⟩ : ∃ k : Nat, k = K.toNat := ⟨_, rfl⟩
  rw [← hk]
  have hk9 : k < 256 := by rw [hk]; exact K.toNat_lt
  have HK : Hid (K.toNat = k) := hk.symm
  clear hk
  have hbad : (k = 0 ∨ 248 < n) → E = 1 ∧ Q = [] ∧ N = 0 := by
    intro h
    have e1 : E = 1 := by
      rw [H.out.2.2, blkE, if_pos]
      rw [HN.out]
      rcases h with h | h
      · left; rw [← UInt8.toNat_inj, HK.out, h]; rfl
      · right; exact h
    have e2 : Q = [] := by rw [H.out.1, blkQ, ← H.out.2.2, if_neg (by rw [e1]; decide)]
    exact ⟨e1, e2, by rw [H.out.2.1, e2]; rfl⟩
  by_cases hk0 : k = 0
  · obtain ⟨e1, e2, e3⟩ := hbad (.inl hk0)
    subst hk0
    rw [e1, e2, e3]
    clear hbad e1 e2 e3
    go_enter Tryd.func11, Tryd.ntmps11
    go_wp2_with fail
    go_ret2
    exact ⟨_, rfl, Own.nil _ _ _, Below.refl _ _⟩
  have hk0' : ((k : Int) == 0) = false := by rw [beq_eq_false_iff_ne]; omega
  by_cases hbig : 248 < n
  · obtain ⟨e1, e2, e3⟩ := hbad (.inr hbig)
    have hbi : (248 : Int) < n := by omega
    rw [e1, e2, e3]
    clear hbad e1 e2 e3
    go_enter Tryd.func11, Tryd.ntmps11
    go_wp2_with fail
    go_ret2
    exact ⟨_, rfl, Own.nil _ _ _, Below.refl _ _⟩
  have hbi : ¬ (248 : Int) < n := by omega
  clear hbad
  have HE : Hid (E = 0 ∧ Q = blkL K b ∧ N = 256) := by
    have e1 : E = 0 := by
      rw [H.out.2.2, blkE, if_neg]
      rw [HN.out]
      rintro (h | h)
      · apply hk0; rw [← HK.out, h]; rfl
      · exact hbig h
    have e2 : Q = blkL K b := by rw [H.out.1, blkQ, ← H.out.2.2, if_pos e1]
    exact ⟨e1, e2, by rw [H.out.2.1, e2, blkL_len K b (by rw [HN.out]; omega)]⟩
  clear H
  have hfc := front_cells K n (by omega)
  rw [HK.out] at hfc
  have HFC := Lib.hid hfc
  clear hfc
  go_enter Tryd.func11, Tryd.ntmps11
  go_wp2_with fail
  refine (front_any k n hk9 (by omega) w).mono ?_
  rintro e w1 ⟨rfl, hb1⟩
  have hrZ := Row.new w1 [.int .u8 0, .int .u8 0, .int .u8 0, .int .u8 0] 47
  have hbZ : Below w1.heap.size w1 (w1.alloc (.cells #[.int .u8 0, .int .u8 0, .int .u8 0, .int .u8 0] 47)) := (Below.refl _ _).alloc (Nat.le_refl _) _
  go_upto_region 4 with (refine wpL_storeRow rfl _ _ _ rfl (cs := [.int .u8 k, .int .u8 0, .int .u8 ((n : Int) % 256), .int .u8 ((n : Int) / 256)]) rfl rfl hrZ (by kernel_rfl) rfl rfl ?_; intro w2 hg2 hr2)
  have hb2 : Below w1.heap.size w1 w2 := hbZ.grown hg2 hbZ.size (fun g e => by cases e; exact Nat.le_refl _)
  have hB2 := hb1.trans (hb2.mono hb1.size)
  have ho2 := own_row hr2 (base := w.heap.size) hb1.size (show 4 ≤ maxLen by decide)
  have hl2 := hl.below hB2
  simp only [List.length_cons, List.length_nil, Nat.zero_add, Nat.reduceAdd] at ho2
  rw [HFC.out] at ho2
  clear hrZ hbZ hg2 hr2 hb1 hb2
  go_wp2_with (at_builtin; refine wpL_append etB rfl _ _ rfl ho2 rfl hl2 rfl (bvs_one _) (by omega) (by simp [maxLen]; omega) hB2.size ?_; intro v3 w3 ho3 hg3; have hB3 := below_own hB2 ho2 hg3 (Nat.le_refl _) hB2.size; clear hg3)
  obtain ⟨a3, c3, rfl⟩ := ho3.form
  rw [← bvs_append] at ho3
  have hfill := fill_any a3 (4 + n) c3 (frontL K n ++ b) w3 252 ho3.sl
  have hblk := fill_blk K b (by rw [HN.out]; omega)
  rw [HN.out] at hblk
  have hP252 := blkP_len K b (by rw [HN.out]; omega)
  rw [hblk.1, hblk.2, hP252] at hfill
  have HFILL := Lib.hid hfill
  clear hfill hblk hP252 ho2 hl2 hB2
  refine HFILL.out.mono ?_
  rintro e w4 ⟨v4, rfl, ho4, hb4⟩
  obtain ⟨a4, c4, rfl⟩ := ho4.form
  have hB4 := hB3.trans (hb4.mono hB3.size)
  replace ho4 := ho4.mono (base' := w.heap.size) hB3.size
  clear ho3 hB3 hb4 HFILL
  go_wp2_with fail
  refine (sum_any a4 252 c4 (blkP K b) w4 ho4.sl).mono ?_
  rintro e w5 ⟨rfl, hb5⟩
  have ho5 := ho4.below hb5
  have hB5 := hB4.trans (hb5.mono hB4.size)
  have hs9 := sumN_lt (blkP K b)
  have hput := put_any a4 252 c4 (blkP K b) w5 (sumN (blkP K b)) 4 ho5.sl (by decide) (by omega)
  rw [putL4, ← blkL, blkL_len K b (by rw [HN.out]; omega)] at hput
  have HP := Lib.hid hput
  clear hput ho4 hB4 hb5
  generalize sumN (blkP K b) = z at hs9 HP ⊢
  go_wp2_with fail
  refine HP.out.mono ?_
  rintro e w6 ⟨v6, rfl, ho6, hb6⟩
  go_wp2_with fail
  go_ret2
  obtain ⟨e1, e2, e3⟩ := HE.out
  rw [e1, e2, e3]
  exact ⟨_, rfl, ho6.mono hB5.size, hB5.trans (hb6.mono hB5.size)⟩
end Go.Proofs.YtobagfndagjajaaDoor
