/-
  BlockOpens, BlockSeals, walked.
-/
import Derived.Test.YtobagfndagjajaaDoorBlkW
import Derived.Test.YtobagfndagjajaaDoorApartC
namespace Go.Proofs.YtobagfndagjajaaDoor
open Go.RowKit
set_option linter.unusedVariables false
set_option linter.unusedSimpArgs false

theorem room_front' {w : World} {Bs g off n : Nat} {l : List UInt8} (hn : l.length = n) (h : Own w Bs 1 (.slice (some ⟨g, off, none⟩) (n + 6) (n + 6)) (n + 6) (bvs (l ++ tailL))) : Own w Bs 1 (.slice (some ⟨g, off, none⟩) n (n + 6)) n (bvs l) := by
  have h := h.front (m := n) (by omega)
  rw [Nat.mul_one, bvs_take, ← hn, List.take_left, hn] at h
  exact h
theorem OpIs.le {b : List UInt8} {K : Nat} {L : List UInt8} {N : Nat} {E : Int} (h : OpIs b K L N E) : N ≤ b.length := by
  rw [h.iN, h.iL]
  split
  · rw [opB, List.length_take, List.length_drop]; omega
  · exact Nat.zero_le _
set_option maxHeartbeats 4000000 in
theorem blockOpens_walk (a : Option Addr) (n c : Nat) (b : List UInt8) (w : World) (hl : Sl w 1 (.slice a n c) n (bvs b)) :
    Calls Tryd.prog 4 #[.slice a n c] w fun e w' => e = .returned (.bool true) ∧ Below w.heap.size w w' := by
  have HN := Lib.hid hl.len.1
  go_enter Tryd.func4, Tryd.ntmps4
  by_cases hbig : 4096 < n
  · have hbigi : (4096 : Int) < n := by omega
    have hB1 := Below.refl w.heap.size w
    go_wp2_with fail
    refine (works_any w).mono ?_
    rintro e wZ ⟨rfl, hbZ⟩
    go_wp2_with fail
    go_ret
    exact ⟨rfl, (hB1).trans (hbZ.mono (hB1).size)⟩
  have hbigi : ¬ (4096 : Int) < n := by omega
  obtain ⟨K, hK⟩ : ∃ K, K = if opOk b then (opK b).toNat else 0 := ⟨_, rfl⟩
  obtain ⟨L, hL⟩ : ∃ L, L = if opOk b then opB b else [] := ⟨_, rfl⟩
  obtain ⟨N, hN⟩ : ∃ N, N = L.length := ⟨_, rfl⟩
  obtain ⟨E, hE⟩ : ∃ E : Int, E = if opOk b then 0 else 8 := ⟨_, rfl⟩
  have HI : Hid (OpIs b K L N E) := ⟨hK, hL, hN, hE⟩
  have hN9 : N ≤ 4096 := by have := HI.out.le; have := HN.out; omega
  clear hK hL hN hE
  go_wp2_with fail
  refine (roomy_any a n c b w hl (by omega)).mono ?_
  rintro e w1 ⟨g, o, rfl, hi1, hb1⟩
  have hf1 := room_front' HN.out hi1
  go_wp2_with fail
  refine (open_p _ n (n + 6) b w1 hf1.sl K L N E HI.out).mono ?_
  rintro e w2 ⟨v2, rfl, ho2, hb2⟩
  obtain ⟨a2, c2, rfl⟩ := ho2.form
  have hi2 := hi1.below hb2
  have hf2 := hf1.below hb2
  have hB2 := hb1.trans (hb2.mono hb1.size)
  have l2 := ho2.lt
  have l1 := hf1.lives
  have hd : Hid (∀ g', (Value.slice a2 N c2).ownBlock = some g' → (Value.slice (some ⟨g, o, none⟩) n (n + 6)).ownBlock ≠ some g') := fun g' h1 h2 => by have := l2 g' h1; have := l1 g' h2; omega
  replace ho2 := ho2.mono (base' := w.heap.size) hb1.size
  clear hi1 hf1 hb1 hb2 l1 l2
  go_wp2_with fail
  refine (ropen_p a n c b w2 (hl.below hB2) K L N E HI.out).mono ?_
  rintro e w3 ⟨v3, rfl, ho3, hb3⟩
  obtain ⟨a3, c3, rfl⟩ := ho3.form
  have hi3 := hi2.below hb3
  have hf3 := hf2.below hb3
  have ho23 := ho2.below hb3
  have hB3 := hB2.trans (hb3.mono hB2.size)
  clear hi2 hf2 ho2 hb3 hB2
  have hKK : ((K : Int) == K) = true := by simp
  have hEE : (E == E) = true := by simp
  go_wp2_with fail
  refine (eqb_any a2 N c2 a3 N c3 L L w3 ho23.sl ho3.sl (by omega) (by omega)).mono ?_
  rintro e w4 ⟨rfl, hb4⟩
  rw [decide_eq_true rfl]
  have hi4 := hi3.below hb4
  have hf4 := hf3.below hb4
  have ho24 := ho23.below hb4
  have hB4 := hB3.trans (hb4.mono hB3.size)
  clear hi3 hf3 ho23 ho3 hb4 hB3
  go_wp2_with fail
  refine (kept_any g o a n c b w4 hi4.sl (hl.below hB4) (by omega)).mono ?_
  rintro e w5 ⟨rfl, hb5⟩
  have hf5 := hf4.below hb5
  have ho25 := ho24.below hb5
  have hB5 := hB4.trans (hb5.mono hB4.size)
  have hap := apart2 (.slice a2 N c2) (.slice (some ⟨g, o, none⟩) n (n + 6)) N n L b w.heap.size w5 hB5.size ho25 hf5 (by omega) (by omega) hd.out
  have HAP := Lib.hid hap
  clear hap hi4 hf4 ho24 hb5 hB4 ho25 hf5
  go_wp2_with fail
  refine HAP.out.mono ?_
  rintro e w6 ⟨rfl, hb6⟩
  have hB6 := hB5.trans hb6
  go_wp2_with fail
  refine (works_any w6).mono ?_
  rintro e wZ ⟨rfl, hbZ⟩
  go_wp2_with fail
  go_ret
  exact ⟨rfl, (hB6).trans (hbZ.mono (hB6).size)⟩
set_option maxHeartbeats 4000000 in
theorem blockSeals_walk (K : UInt8) (a : Option Addr) (n c : Nat) (b : List UInt8) (w : World) (hl : Sl w 1 (.slice a n c) n (bvs b)) :
    Calls Tryd.prog 3 #[.int .u8 (K.toNat : Int), .slice a n c] w fun e w' => e = .returned (.bool true) ∧ Below w.heap.size w w' := by
  have HN := Lib.hid hl.len.1
  obtain ⟨k, hk⟩ : ∃ k : Nat, k = K.toNat := ⟨_, rfl⟩
  rw [← hk]
  have hk9 : k < 256 := by rw [hk]; exact K.toNat_lt
  have HK : Hid (K.toNat = k) := hk.symm
  clear hk
  go_enter Tryd.func3, Tryd.ntmps3
  by_cases hbig : 4096 < n
  · have hbigi : (4096 : Int) < n := by omega
    have hB1 := Below.refl w.heap.size w
    go_wp2_with fail
    refine (works_any w).mono ?_
    rintro e wZ ⟨rfl, hbZ⟩
    go_wp2_with fail
    go_ret
    exact ⟨rfl, (hB1).trans (hbZ.mono (hB1).size)⟩
  have hbigi : ¬ (4096 : Int) < n := by omega
  obtain ⟨Q, hQ⟩ : ∃ Q, Q = blkQ K b := ⟨_, rfl⟩
  obtain ⟨N, hN⟩ : ∃ N, N = Q.length := ⟨_, rfl⟩
  obtain ⟨E, hE⟩ : ∃ E, E = blkE K b := ⟨_, rfl⟩
  have hN9 : N ≤ 256 := by rw [hN, hQ]; exact blkQ_le _ _
  have HQ : Hid (Q = blkQ K b ∧ N = Q.length ∧ E = blkE K b) := ⟨hQ, hN, hE⟩
  clear hQ hN hE
  have HW : Hid (∀ (a : Option Addr) (c : Nat) (w : World), Sl w 1 (.slice a n c) n (bvs b) → Calls Tryd.prog 11 #[.int .u8 (k : Int), .slice a n c] w fun e w' => ∃ v, e = .returned (.tuple #[v, .int .i64 E]) ∧ Own w' w.heap.size 1 v N (bvs Q) ∧ Below w.heap.size w w') := by
    intro a c w hl
    have := seal_p K a n c b w hl Q N E HQ
    rw [HK.out] at this
    exact this
  have hRR := rseal_p K a n c b
  rw [HK.out] at hRR
  have HR := Lib.hid hRR
  clear hRR
  go_wp2_with fail
  refine (roomy_any a n c b w hl (by omega)).mono ?_
  rintro e w1 ⟨g, o, rfl, hi1, hb1⟩
  have hf1 := room_front' HN.out hi1
  go_wp2_with fail
  refine (HW.out _ (n + 6) w1 hf1.sl).mono ?_
  rintro e w2 ⟨v2, rfl, ho2, hb2⟩
  obtain ⟨a2, c2, rfl⟩ := ho2.form
  have hi2 := hi1.below hb2
  have hf2 := hf1.below hb2
  have hB2 := hb1.trans (hb2.mono hb1.size)
  have l2 := ho2.lt
  have l1 := hf1.lives
  have hd : Hid (∀ g', (Value.slice a2 N c2).ownBlock = some g' → (Value.slice (some ⟨g, o, none⟩) n (n + 6)).ownBlock ≠ some g') := fun g' h1 h2 => by have := l2 g' h1; have := l1 g' h2; omega
  replace ho2 := ho2.mono (base' := w.heap.size) hb1.size
  clear hi1 hf1 hb1 hb2 l1 l2
  go_wp2_with fail
  refine (HR.out w2 (hl.below hB2) Q N E HQ).mono ?_
  rintro e w3 ⟨v3, rfl, ho3, hb3⟩
  obtain ⟨a3, c3, rfl⟩ := ho3.form
  have hi3 := hi2.below hb3
  have hf3 := hf2.below hb3
  have ho23 := ho2.below hb3
  have hB3 := hB2.trans (hb3.mono hB2.size)
  clear hi2 hf2 ho2 hb3 hB2
  have hEE : (E == E) = true := by simp
  go_wp2_with fail
  refine (eqb_any a2 N c2 a3 N c3 Q Q w3 ho23.sl ho3.sl (by omega) (by omega)).mono ?_
  rintro e w4 ⟨rfl, hb4⟩
  rw [decide_eq_true rfl]
  have hi4 := hi3.below hb4
  have hf4 := hf3.below hb4
  have ho24 := ho23.below hb4
  have hB4 := hB3.trans (hb4.mono hB3.size)
  clear hi3 hf3 ho23 ho3 hb4 hB3
  go_wp2_with fail
  refine (kept_any g o a n c b w4 hi4.sl (hl.below hB4) (by omega)).mono ?_
  rintro e w5 ⟨rfl, hb5⟩
  have hf5 := hf4.below hb5
  have ho25 := ho24.below hb5
  have hB5 := hB4.trans (hb5.mono hB4.size)
  clear hi4 hf4 ho24 hb5 hB4
  go_wp2_with fail
  refine (HW.out _ (n + 6) w5 hf5.sl).mono ?_
  rintro e w6 ⟨v6, rfl, ho6, hb6⟩
  obtain ⟨a6, c6, rfl⟩ := ho6.form
  have hf6 := hf5.below hb6
  have ho26 := ho25.below hb6
  have hB6 := hB5.trans (hb6.mono hB5.size)
  have l6 := ho6.lt
  have l2 := ho25.lives
  have l5 := hf5.lives
  have hap := apart3 (.slice a2 N c2) (.slice a6 N c6) (.slice (some ⟨g, o, none⟩) n (n + 6)) N N n Q Q b w.heap.size w6 hB6.size ho26 (ho6.mono hB5.size) hf6 (by omega) (by omega) (by omega)
    (fun g h1 h2 => by have := l6 g h2; have := l2 g h1; omega) hd.out (fun g h1 h2 => by have := l6 g h1; have := l5 g h2; omega)
  have HAP := Lib.hid hap
  clear hap l6 l2 l5 hf5 ho25 hb6 hB5 ho26 ho6 hf6
  go_wp2_with fail
  refine HAP.out.mono ?_
  rintro e w7 ⟨rfl, hb7⟩
  have hB7 := hB6.trans hb7
  go_wp2_with fail
  refine (works_any w7).mono ?_
  rintro e wZ ⟨rfl, hbZ⟩
  go_wp2_with fail
  go_ret
  exact ⟨rfl, (hB7).trans (hbZ.mono (hB7).size)⟩
theorem u8_of {x : Int} (h : (Lit.int .u8 x).wf = true) : ∃ K : UInt8, x = (K.toNat : Int) := by
  have hx : 0 ≤ x ∧ x ≤ 255 := by simpa [Lit.wf, IntKind.min, IntKind.max, IntKind.signed, IntKind.bits] using h
  refine ⟨UInt8.ofNat x.toNat, ?_⟩
  rw [UInt8.toNat_ofNat']
  omega
theorem blockOpens_top (a : Option Addr) (n c : Nat) (b : List UInt8) (w : World) (hl : Sl w 1 (.slice a n c) n (bvs b)) :
    Calls Tryd.prog 4 #[.slice a n c] w fun e w' => e = .returned (.bool true) ∧ Below w.heap.size w w' := blockOpens_walk a n c b w hl
theorem blockSeals_top (x : Int) (hx : (Lit.int .u8 x).wf = true) (a : Option Addr) (n c : Nat) (b : List UInt8) (w : World) (hl : Sl w 1 (.slice a n c) n (bvs b)) :
    Calls Tryd.prog 3 #[.int .u8 x, .slice a n c] w fun e w' => e = .returned (.bool true) ∧ Below w.heap.size w w' := by
  obtain ⟨K, rfl⟩ := u8_of hx
  exact blockSeals_walk K a n c b w hl
end Go.Proofs.YtobagfndagjajaaDoor
