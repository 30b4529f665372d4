/-
  BlockLengths, walked.
-/
import Derived.Test.YtobagfndagjajaaDoorBlkS
namespace Go.Proofs.YtobagfndagjajaaDoor
open Go.RowKit
set_option linter.unusedVariables false
set_option linter.unusedSimpArgs false

theorem open_yes_t (K : UInt8) (k t : Nat) (ht : Hid (t = 256)) (hk : Hid (K.toNat = k)) (h0 : K ≠ 0) (a : Option Addr) (c n : Nat) (b : List UInt8) (w : World) (hb : Hid (b.length = n)) (hn : n ≤ 248) (hl : Sl w 1 (.slice a t c) t (bvs (blkL K b))) :
    Calls Tryd.prog 16 #[.slice a t c] w fun e w' => ∃ v, e = .returned (.tuple #[.int .u8 (k : Int), v, .int .i64 0]) ∧ Own w' w.heap.size 1 v n (bvs b) ∧ Below w.heap.size w w' := by
  obtain rfl := ht.out
  exact open_yes K k hk h0 a c n b w hb hn hl
set_option maxHeartbeats 8000000 in
theorem blockLengths_walk (K : UInt8) (a : Option Addr) (n c : Nat) (l : List UInt8) (x : Nat) (hx : x < 65536) (w : World) (hl : Sl w 1 (.slice a n c) n (bvs l)) :
    Calls Tryd.prog 8 #[.int .u8 (K.toNat : Int), .slice a n c, .int .u16 (x : Int)] w fun e w' => e = .returned (.bool true) ∧ Below w.heap.size w w' := by
  have HN : Hid (l.length = n) := by have := hl.len.1; show _ = _; omega
  have hnm := hl.len.2.1
  obtain ⟨k, hk⟩ : ∃ k : Nat, k = K.toNat := ⟨_, rfl⟩
  rw [← hk]
  have hk9 : k < 256 := by rw [hk]; exact K.toNat_lt
  have HK : Hid (K.toNat = k) := hk.symm
  clear hk
  have hB0 := Below.refl w.heap.size w
  go_enter Tryd.func8, Tryd.ntmps8
  by_cases hbig : 248 < n
  · have hbigi : (248 : Int) < n := by omega
    go_wp2_with fail
    refine (works_any w).mono ?_
    rintro e wZ ⟨rfl, hbZ⟩
    go_wp2_with fail
    go_ret
    exact ⟨rfl, (hB0).trans (hbZ.mono (hB0).size)⟩
  have hbigi : ¬ (248 : Int) < n := by omega
  by_cases h0 : K = 0
  · have hk0 : k = 0 := by rw [← HK.out, h0]; rfl
    have hki : ((k : Int) = 0) = True := eq_true (by omega)
    have hkb : ((k : Int) == 0) = true := by simp [hk0]
    clear hk0
    go_wp2_with fail
    refine (works_any w).mono ?_
    rintro e wZ ⟨rfl, hbZ⟩
    go_wp2_with fail
    go_ret
    exact ⟨rfl, (hB0).trans (hbZ.mono (hB0).size)⟩
  have hk0 : k ≠ 0 := by intro h; apply h0; rw [← HK.out] at h; exact UInt8.toNat_inj.1 h
  have hki : ¬ (k : Int) = 0 := by omega
  have hkb : ((k : Int) == 0) = false := by simp [hk0]
  obtain ⟨t, ht⟩ : ∃ t, t = x % 600 := ⟨_, rfl⟩
  have ht9 : t < 600 := by omega
  have hxt : ((x : Int).tmod 600) = (t : Int) := by rw [ht, Int.tmod_eq_emod_of_nonneg (by omega)]; rfl
  have hxt2 : ((x : Int) % 600) = (t : Int) := by rw [ht]; rfl
  clear ht
  go_upto_block 1 with fail
  refine (seal_yes K k HK h0 a n c l w hl (by omega)).mono ?_
  rintro e w1 ⟨v1, rfl, ho1, hb1⟩
  obtain ⟨a1, c1, rfl⟩ := ho1.form
  go_upto_block 1 with fail
  go_loopw [7] (fun v7 wr => ∃ (M : Nat), 256 ≤ M ∧ (M = 256 ∨ M ≤ t) ∧ Own wr w.heap.size 1 v7 M (bvs (blkL K l ++ List.replicate (M - 256) 0)) ∧ Below w.heap.size w wr) (fun v7 _ => match v7 with | .slice _ n _ => 600 - n | _ => 0)
  case atStart => exact ⟨256, Nat.le_refl _, .inl rfl, by rw [Nat.sub_self, List.replicate_zero, List.append_nil]; exact ho1, hb1⟩
  case round =>
    clear ho1 hb1
    obtain ⟨M, hM1, hM2, ho, hB⟩ := hrel
    obtain ⟨a7, c7, rfl⟩ := ho.form
    have HM2 := Lib.hid hM2
    clear hM2
    by_cases hlt : M < t
    · have hlti : (M : Int) < t := by omega
      have hba : Below wr.heap.size wr (wr.alloc (.cells #[.int .u8 0] 5)) := (Below.refl _ _).alloc (Nat.le_refl _) _
      have hs3 : Sl (wr.alloc (.cells #[.int .u8 0] 5)) 1 (.slice (some ⟨wr.heap.size, 0, none⟩) 1 1) 1 (bvs [0]) := Sl.one wr _ _
      have ho3 := ho.below hba
      have hB3 := hB.trans (hba.mono hB.size)
      go_wp2_with (at_builtin; refine wpL_append etB rfl _ _ rfl ho3 rfl hs3 rfl (bvs_one _) (by omega) (by simp [maxLen]; omega) hB3.size ?_; intro v5 w5 ho5 hg5; have hB5 := below_own hB3 ho3 hg5 (Nat.le_refl _) hB3.size; clear hg5)
      obtain ⟨a5, c5, rfl⟩ := ho5.form
      refine ⟨⟨M + 1, by omega, .inr (by omega), ?_, hB5⟩, by simp; omega⟩
      rw [← bvs_append, List.append_assoc] at ho5
      rwa [show M + 1 - 256 = (M - 256) + 1 by omega, List.replicate_succ']
    · have hlti : ¬ (M : Int) < t := by omega
      have hMc := ho.sl.len.2.2.1
      have hMm := ho.sl.len.2.1
      obtain ⟨D, hD⟩ : ∃ D, D = (blkL K l ++ List.replicate (M - 256) 0).take t := ⟨_, rfl⟩
      have hsl : Hid (∀ av, Sl wr 1 (.slice av (t - 0) (c7 - 0)) (t - 0) (((bvs (blkL K l ++ List.replicate (M - 256) 0)).drop 0).take (t - 0)) → Sl wr 1 (.slice av t c7) t (bvs D)) := by
        intro av h
        rw [Nat.sub_zero, Nat.sub_zero, List.drop_zero, bvs_take, ← hD] at h
        exact h
      have hDl : Hid (D.length = t) := by
        have := ho.sl.len.1
        show _ = _
        rw [hD, List.length_take]
        omega
      have hDy : Hid (t = 256 → D = blkL K l) := by
        intro h
        have hM6 : M = 256 := by have := HM2.out; omega
        have hle : (blkL K l).length = 256 := blkL_len K l (by rw [HN.out]; omega)
        rw [hD, hM6, h, Nat.sub_self, List.replicate_zero, List.append_nil, ← hle, List.take_length]
      clear hD
      go_wp2_with (refine wpL_cutW etB rfl (.tmp 37) none _ none rfl 0 t c7 rfl (bounds_h _ M c7 t .i64 (by omega)) (Nat.zero_le _) (by omega) (by omega) (Nat.le_refl _) ?_; intro av hav0; have hav := hsl.out av (hav0 wr _ ho.sl); clear hav0; simp only [Nat.sub_zero])
      by_cases ht6 : t = 256
      · have hti : ((t : Int) = 256) = True := eq_true (by omega)
        have htb : ((t : Int) == 256) = true := by simp [ht6]
        rw [hDy.out ht6] at hav
        have HT := Lib.hid ht6
        clear ht6
        refine (open_yes_t K k t HT HK h0 av c7 n l wr HN (by omega) hav).mono ?_
        rintro e w2 ⟨v2, rfl, ho2, hb2⟩
        obtain ⟨a3, c3, rfl⟩ := ho2.form
        have hB2 := hB.trans (hb2.mono hB.size)
        clear hav ho ho2 hb2
        go_wp2_with fail
        refine (works_any w2).mono ?_
        rintro e wZ ⟨rfl, hbZ⟩
        go_wp2_with fail
        go_ret
        exact ⟨rfl, (hB2).trans (hbZ.mono (hB2).size)⟩
      · have hti : ¬ (t : Int) = 256 := by omega
        have htb : ((t : Int) == 256) = false := by simp; omega
        refine (open_bad av t c7 D wr hav (open_len (by rw [hDl.out]; exact ht6))).mono ?_
        rintro e w2 ⟨v2, rfl, ho2, hb2⟩
        obtain ⟨a3, c3, rfl⟩ := ho2.form
        have hB2 := hB.trans (hb2.mono hB.size)
        clear hav ho ho2 hb2
        go_wp2_with fail
        refine (works_any w2).mono ?_
        rintro e wZ ⟨rfl, hbZ⟩
        go_wp2_with fail
        go_ret
        exact ⟨rfl, (hB2).trans (hbZ.mono (hB2).size)⟩
theorem blockLengths_top (x : Int) (hx : (Lit.int .u8 x).wf = true) (a : Option Addr) (n c : Nat) (l : List UInt8) (y : Int) (hy : (Lit.int .u16 y).wf = true) (w : World) (hl : Sl w 1 (.slice a n c) n (bvs l)) :
    Calls Tryd.prog 8 #[.int .u8 x, .slice a n c, .int .u16 y] w fun e w' => e = .returned (.bool true) ∧ Below w.heap.size w w' := by
  obtain ⟨K, rfl⟩ := u8_of hx
  obtain ⟨z, hz, rfl⟩ := nat_u16 hy
  exact blockLengths_walk K a n c l z hz w hl
end Go.Proofs.YtobagfndagjajaaDoor
