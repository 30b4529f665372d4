/-
  The document's Open, the law's works, walked.
-/
import Derived.Test.YtobagfndagjajaaDoorBlkP
import Derived.Test.YtobagfndagjajaaDoorRef00
namespace Go.Proofs.YtobagfndagjajaaDoor
open Go.RowKit
set_option linter.unusedVariables false
set_option linter.unusedSimpArgs false

theorem blkQ_le (K : UInt8) (b : List UInt8) : (blkQ K b).length ≤ 256 := by
  unfold blkQ
  split
  · rename_i h
    rw [blkE] at h
    split at h
    · cases h
    · rename_i hn
      rw [blkL_len K b (by omega)]
      exact Nat.le_refl _
  · simp
set_option maxHeartbeats 8000000 in
theorem ropen_p (a : Option Addr) (n c : Nat) (b : List UInt8) (w : World) (hl : Sl w 1 (.slice a n c) n (bvs b)) (K : Nat) (L : List UInt8) (N : Nat) (E : Int) (H : OpIs b K L N E) :
    Calls Tryd.prog 17 #[.slice a n c] w fun e w' => ∃ v, e = .returned (.tuple #[.int .u8 (K : Int), v, .int .i64 E]) ∧ Own w' w.heap.size 1 v N (bvs L) ∧ Below w.heap.size w w' := by
  have HN := Lib.hid hl.len.1
  have hnc := hl.len.2.2.1
  have HH := Lib.hid H
  clear H
  have hB0 := Below.refl w.heap.size w
  by_cases h256 : n = 256
  rotate_left
  · have hno : Hid (opOk b = false) := by show _ = _; rw [opOk, decide_eq_false (by rw [HN.out]; exact h256)]; rfl
    have hi : ((n : Int) == 256) = false := by rw [beq_eq_false_iff_ne]; omega
    go_enter Tryd.func17, Tryd.ntmps17
    go_wp2_with fail
    obtain ⟨e1, e2, e3, e4⟩ := HH.out.no hno.out
    rw [e1, e2, e3, e4]
    try simp only [Exit.inBlock, Exit.then]
    refine bodyPost_ret (results_tmp3 rfl _ _ _) rfl ?_
    exact ⟨_, rfl, Own.nil _ _ _, hB0⟩
  subst h256
  obtain ⟨b1, o1, rfl, _⟩ := hl.byte (k := 0) (by omega)
  obtain ⟨m, hm⟩ : ∃ m, m = opN b := ⟨_, rfl⟩
  have hm9 : m < 65536 := by rw [hm, opN]; exact getN_lt2 b 2
  have HM := Lib.hid hm
  have hget := rget_any (some ⟨b1, o1, none⟩) 256 c b w 2 2 hl (by decide)
  rw [show getN b 2 2 = m from hm.symm] at hget
  generalize getE b 2 2 = X1 at hget
  have HGET := Lib.hid hget
  have hcut := rcut_any (some ⟨b1, o1, none⟩) 256 c b w 4 (m : Int) hl (by decide)
  obtain ⟨I, hI⟩ : ∃ I, I = cutIs b 4 (m : Int) := ⟨_, rfl⟩
  rw [← hI] at hcut
  have HI := Lib.hid hI
  have HLAW : Hid (opOk b = (I && (decide (blkE (opK b) (opB b) = 0) && decide (blkQ (opK b) (opB b) = b)))) := by
    show _ = _; rw [op_law b HN.out, hI, hm]
  obtain ⟨k, hk⟩ : ∃ k, k = (opK b).toNat := ⟨_, rfl⟩
  have HK := Lib.hid hk
  cases I with
  | false =>
    have hno : Hid (opOk b = false) := by show _ = _; rw [HLAW.out]; rfl
    have hcl : cutL b 4 (m : Int) = [] := by rw [cutL, ← hI]; rfl
    rw [hcl] at hcut
    have HCUT := Lib.hid hcut
    clear hget hcut hm hI hk hcl
    go_enter Tryd.func17, Tryd.ntmps17
    go_wp2_with fail
    refine HGET.out.mono ?_
    rintro e w1 ⟨rfl, rfl⟩
    go_wp2_with fail
    refine HCUT.out.mono ?_
    rintro e w2 ⟨v2, rfl, ho2, hb2⟩
    obtain ⟨a2, c2, rfl⟩ := ho2.form
    go_wp2_with fail
    obtain ⟨e1, e2, e3, e4⟩ := HH.out.no hno.out
    rw [e1, e2, e3, e4]
    try simp only [Exit.inBlock, Exit.then]
    refine bodyPost_ret (results_tmp3 rfl _ _ _) rfl ?_
    exact ⟨_, rfl, Own.nil _ _ _, hb2⟩
  | true =>
    have hcl : cutL b 4 (m : Int) = opB b := by
      rw [cutL, ← hI, opB, ← hm]
      rfl
    have hbl : (opB b).length = m := by
      have := hI.symm
      simp only [cutIs, HN.out, Bool.and_eq_true, decide_eq_true_eq] at this
      rw [opB, List.length_take, List.length_drop, HN.out, ← hm]; omega
    rw [hcl, hbl] at hcut
    have HCUT := Lib.hid hcut
    have HBL := Lib.hid hbl
    obtain ⟨Q, hQ⟩ : ∃ Q, Q = blkQ (opK b) (opB b) := ⟨_, rfl⟩
    obtain ⟨NQ, hNQ⟩ : ∃ NQ, NQ = Q.length := ⟨_, rfl⟩
    obtain ⟨E1, hE1⟩ : ∃ E1, E1 = blkE (opK b) (opB b) := ⟨_, rfl⟩
    have hNQ9 : NQ ≤ 256 := by rw [hNQ, hQ]; exact blkQ_le _ _
    have HL2 : Hid (opOk b = (decide (E1 = 0) && decide (Q = b))) := by show _ = _; rw [HLAW.out, hE1, hQ]; rfl
    have hseal := fun (a : Option Addr) (c : Nat) (w : World) (hl : Sl w 1 (.slice a m c) m (bvs (opB b))) => rseal_p (opK b) a m c (opB b) w hl Q NQ E1 ⟨hQ, hNQ, hE1⟩
    rw [← hk] at hseal
    have HSEAL := Lib.hid hseal
    clear hget hcut hm hI hk hcl hbl hQ hNQ hE1 hseal HLAW
    go_enter Tryd.func17, Tryd.ntmps17
    go_wp2_with fail
    refine HGET.out.mono ?_
    rintro e w1 ⟨rfl, rfl⟩
    go_wp2_with fail
    refine HCUT.out.mono ?_
    rintro e w2 ⟨v2, rfl, ho2, hb2⟩
    obtain ⟨a2, c2, rfl⟩ := ho2.form
    obtain ⟨_, _, e0, q0⟩ := (hl.below hb2).byte (k := 0) (by omega)
    cases e0
    have q0' : w2.cell? ⟨b1, o1, none⟩ = some (.int .u8 (k : Int)) := by rw [HK.out]; exact q0
    clear q0
    go_wp2_with fail
    refine (HSEAL.out a2 c2 w2 ho2.sl).mono ?_
    rintro e w3 ⟨v3, rfl, ho3, hb3⟩
    obtain ⟨a3, c3, rfl⟩ := ho3.form
    have ho23 := ho2.below hb3
    have hB3 := hb2.trans (hb3.mono hb2.size)
    have hl3 := hl.below hB3
    obtain ⟨_, _, e0, q3⟩ := hl3.byte (k := 0) (by omega)
    cases e0
    have q3' : w3.cell? ⟨b1, o1, none⟩ = some (.int .u8 (k : Int)) := by rw [HK.out]; exact q3
    clear q3 q0' ho2 hb2 hb3
    by_cases hE0 : E1 = 0
    rotate_left
    · have hno : Hid (opOk b = false) := by show _ = _; rw [HL2.out, decide_eq_false hE0]; rfl
      go_wp2_with fail
      obtain ⟨e1, e2, e3, e4⟩ := HH.out.no hno.out
      rw [e1, e2, e3, e4]
      try simp only [Exit.inBlock, Exit.then]
      refine bodyPost_ret (results_tmp3 rfl _ _ _) rfl ?_
      exact ⟨_, rfl, Own.nil _ _ _, hB3⟩
    subst hE0
    have heq := eqb_any a3 NQ c3 (some ⟨b1, o1, none⟩) 256 c Q b w3 ho3.sl hl3 (by omega) (by decide)
    by_cases hqb : Q = b
    · have hyes : Hid (opOk b = true) := by show _ = _; rw [HL2.out, decide_eq_true hqb]; rfl
      rw [decide_eq_true hqb] at heq
      have HEQ := Lib.hid heq
      clear heq hqb
      go_wp2_with fail
      refine HEQ.out.mono ?_
      rintro e w4 ⟨rfl, hb4⟩
      have hB4 := hB3.trans (hb4.mono hB3.size)
      have ho4 := ho23.below hb4
      obtain ⟨_, _, e0, q4⟩ := (hl.below hB4).byte (k := 0) (by omega)
      cases e0
      have q4' : w4.cell? ⟨b1, o1, none⟩ = some (.int .u8 (k : Int)) := by rw [HK.out]; exact q4
      clear q4 q3' hb4 HEQ
      go_wp2_with fail
      obtain ⟨e1, e2, e3, e4⟩ := HH.out.yes hyes.out
      rw [e1, e2, e3, e4, ← HK.out, HBL.out]
      try simp only [Exit.inBlock, Exit.then]
      refine bodyPost_ret (results_tmp3 rfl _ _ _) rfl ?_
      exact ⟨_, rfl, ho4, hB4⟩
    · have hno : Hid (opOk b = false) := by show _ = _; rw [HL2.out, decide_eq_false hqb]; rfl
      rw [decide_eq_false hqb] at heq
      have HEQ := Lib.hid heq
      clear heq hqb
      go_wp2_with fail
      refine HEQ.out.mono ?_
      rintro e w4 ⟨rfl, hb4⟩
      have hB4 := hB3.trans (hb4.mono hB3.size)
      go_wp2_with fail
      obtain ⟨e1, e2, e3, e4⟩ := HH.out.no hno.out
      rw [e1, e2, e3, e4]
      try simp only [Exit.inBlock, Exit.then]
      refine bodyPost_ret (results_tmp3 rfl _ _ _) rfl ?_
      exact ⟨_, rfl, Own.nil _ _ _, hB4⟩
end Go.Proofs.YtobagfndagjajaaDoor
