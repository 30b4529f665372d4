/-
  A burst that may reach beyond the end.
-/
import Derived.Test.YtobagfndagjajaaDoorBlkP
import Derived.Test.YtobagfndagjajaaDoorCrcW3
import Derived.Test.YtobagfndagjajaaDoorCrcP4
namespace Go.Proofs.YtobagfndagjajaaDoor.Crc
open Go.RowKit
set_option linter.unusedVariables false

theorem burst_regs2 (r : Nat) (l : List UInt8) (at_ mask K : Nat) (h : at_ + K ≤ 8 * l.length) : ∀ k, k ≤ K → regs r (burstTo l at_ mask k) = regs r l ^^^ shN (8 * l.length - at_) (mask % 2 ^ k) := by
  intro k
  induction k with
  | zero => intro _; rw [Nat.pow_zero, Nat.mod_one, shN_zero, Nat.xor_zero]; rfl
  | succ k ih =>
    intro hk
    have ih := ih (by omega)
    have hm : mask % 2 ^ (k + 1) = mask % 2 ^ k ^^^ 2 ^ k * (mask / 2 ^ k % 2) := by
      apply Nat.eq_of_testBit_eq
      intro i
      rw [Nat.testBit_xor, Nat.testBit_mod_two_pow, Nat.testBit_mod_two_pow, Nat.testBit_two_pow_mul]
      by_cases h1 : i < k
      · have a : i < k + 1 := by omega
        have b : ¬ i ≥ k := by omega
        simp [h1, a, b]
      · by_cases h2 : i = k
        · subst h2
          simp only [Nat.lt_irrefl, decide_false, Bool.false_and, Bool.false_xor, Nat.lt_succ_self, decide_true, Bool.true_and, ge_iff_le, Nat.le_refl, Nat.sub_self]
          rw [Nat.testBit_zero, Nat.testBit_eq_decide_div_mod_eq]
          simp
        · have a : ¬ i < k + 1 := by omega
          have b : i ≥ k := by omega
          have c : mask / 2 ^ k % 2 < 2 ^ (i - k) := by
            have : (2 : Nat) ^ 1 ≤ 2 ^ (i - k) := Nat.pow_le_pow_right (by decide) (by omega)
            omega
          simp [h1, a, b, Nat.testBit_lt_two_pow c]
    rw [hm, shN_xor, ← Nat.xor_assoc, ← ih, burstTo]
    split
    · rename_i hb
      rw [regs_turn _ _ _ (by rw [burstTo_len]; omega), burstTo_len, hb, Nat.mul_one]
      congr 1
      have := shN_pow k 1
      rw [Nat.mul_one] at this
      rw [show 8 * l.length - at_ = (8 * l.length - (at_ + k)) + k by omega, shN_add, this]
    · rename_i hb
      rw [show mask / 2 ^ k % 2 = 0 by omega, Nat.mul_zero, shN_zero, Nat.xor_zero]
theorem turnL_off (l : List UInt8) (bit : Nat) (h : 8 * l.length ≤ bit) : turnL l bit = l := by
  rw [turnL, List.set_eq_of_length_le (by omega)]
theorem burst_off (l : List UInt8) (at_ mask r : Nat) (h : 8 * l.length ≤ at_ + r) : ∀ k, r ≤ k → burstTo l at_ mask k = burstTo l at_ mask r := by
  intro k hk
  induction k with
  | zero => obtain rfl : r = 0 := by omega
            rfl
  | succ k ih =>
    by_cases hr : r = k + 1
    · rw [hr]
    · have ih := ih (by omega)
      rw [burstTo, turnL_off _ _ (by rw [burstTo_len]; omega), ite_self, ih]
theorem burst_none (l : List UInt8) (at_ mask r : Nat) (h : mask % 2 ^ r = 0) : ∀ k, k ≤ r → burstTo l at_ mask k = l := by
  intro k
  induction k with
  | zero => intro _; rfl
  | succ k ih =>
    intro hk
    have h2 : mask / 2 ^ k % 2 = 0 := by
      have hd : 2 ^ (k + 1) ∣ mask := Nat.dvd_trans (Nat.pow_dvd_pow 2 hk) (Nat.dvd_of_mod_eq_zero h)
      obtain ⟨q, rfl⟩ := hd
      rw [Nat.pow_succ, Nat.mul_assoc, Nat.mul_div_cancel_left _ (Nat.two_pow_pos k), Nat.mul_mod_right]
    rw [burstTo, if_neg (by omega), ih (by omega)]
theorem burst_seal2 (l : List UInt8) (at_ mask : Nat) (hat : at_ ≤ 8 * (sealL l).length) (h : extend 0 (burstTo (sealL l) at_ mask 32) = 558161692) : burstTo (sealL l) at_ mask 32 = sealL l := by
  obtain ⟨r, hr⟩ : ∃ r, r = min 32 (8 * (sealL l).length - at_) := ⟨_, rfl⟩
  have e : burstTo (sealL l) at_ mask 32 = burstTo (sealL l) at_ mask r := by
    by_cases h32 : r = 32
    · rw [h32]
    · exact burst_off _ _ _ r (by omega) 32 (by omega)
  rw [e] at h ⊢
  refine burst_none _ _ _ r ?_ r (Nat.le_refl _)
  rw [← seal_sum l] at h
  unfold extend at h
  rw [burst_regs2 _ _ _ _ r (by omega) r (Nat.le_refl _)] at h
  have hm : mask % 2 ^ r < 4294967296 := by
    have h1 := Nat.mod_lt mask (Nat.two_pow_pos r)
    have h2 : 2 ^ r ≤ 2 ^ 32 := Nat.pow_le_pow_right (by decide) (by omega)
    omega
  have hr' := regs_lt (inv 0) (sealL l) (inv_lt 0)
  have hsh := shN_lt (8 * (sealL l).length - at_) (mask % 2 ^ r) hm
  have := inv_inj (Nat.xor_lt_two_pow (n := 32) hr' hsh) hr' h
  have h0 : shN (8 * (sealL l).length - at_) (mask % 2 ^ r) = 0 := by
    have := congrArg (fun z => regs (inv 0) (sealL l) ^^^ z) this
    simpa [← Nat.xor_assoc] using this
  exact shN_inj0 _ _ hm h0
set_option maxHeartbeats 400000 in
theorem turn_off (a : Option Addr) (n c : Nat) (l : List UInt8) (w : World) (bit : Nat) (hl : Sl w 1 (.slice a n c) n (bvs l)) (hsz : n ≤ 10000) (hbit : 8 * n ≤ bit) (hb9 : bit ≤ 200000) :
    Calls Tryd.prog 35 #[.slice a n c, .int .i64 bit] w fun e w' => ∃ v, e = .returned v ∧ w'.ownsRow w.heap.size 5 1 v n (bvs l) ∧ Below w.heap.size w w' := by
  have HL := Lib.hid hl
  have hn := hl.len
  clear hl
  have hbi : ¬ (bit : Int) < 8 * n := by omega
  go_enter Tryd.func35, Tryd.ntmps35
  go_wp2_with (at_builtin; refine wpL_append0 et23 rfl _ _ rfl w.heap.size rfl HL.out rfl (bvs_one l) (by omega) (by simp [maxLen]; omega) (Nat.le_refl _) ?_; intro v2 w2 hown2 hg2; have hb2 := below_append0 (Below.refl _ _) (Nat.le_refl _) hg2; clear hg2; obtain ⟨a2, c2, rfl⟩ := (Sl.ofOwn hown2).form; have HO := Lib.hid hown2; have HB := Lib.hid hb2; clear hown2 hb2)
  go_ret
  exact ⟨_, rfl, HO.out, HB.out⟩
theorem turn_all (a : Option Addr) (n c : Nat) (l : List UInt8) (w : World) (bit : Nat) (hl : Sl w 1 (.slice a n c) n (bvs l)) (hsz : n ≤ 10000) (hb9 : bit ≤ 200000) :
    Calls Tryd.prog 35 #[.slice a n c, .int .i64 bit] w fun e w' => ∃ v, e = .returned v ∧ w'.ownsRow w.heap.size 5 1 v n (bvs (turnL l bit)) ∧ Below w.heap.size w w' := by
  by_cases h : bit < 8 * n
  · exact turn_any a n c l w bit hl hsz h
  · rw [turnL_off l bit (by have := hl.len.1; omega)]
    exact turn_off a n c l w bit hl hsz (by omega) hb9
theorem burst_any2 (a : Option Addr) (n c : Nat) (l : List UInt8) (w : World) (at_ mask : Nat) (hl : Sl w 1 (.slice a n c) n (bvs l)) (hsz : n ≤ 10000) (hat : at_ ≤ 100000) (hm : mask < 4294967296) :
    Calls Tryd.prog 18 #[.slice a n c, .int .i64 at_, .int .u32 mask] w fun e w' => ∃ v, e = .returned v ∧ w'.ownsRow w.heap.size 5 1 v n (bvs (burstTo l at_ mask 32)) ∧ Below w.heap.size w w' := by
  have hn := hl.len
  go_enter Tryd.func18, Tryd.ntmps18
  go_wp2
  go_loopw [0, 7] (fun v i wr => ∃ k : Nat, k ≤ 32 ∧ i = .int .i64 k ∧ Sl wr 1 v n (bvs (burstTo l at_ mask k)) ∧ Below w.heap.size w wr) (fun _ i _ => 32 - (intOf i).toNat)
  case atStart => exact ⟨0, by omega, rfl, hl, Below.refl _ _⟩
  case round =>
    obtain ⟨k, hk, rfl, hv, hbel⟩ := hrel
    obtain ⟨a, c, rfl⟩ := hv.form
    have HV := Lib.hid hv
    have HB := Lib.hid hbel
    have hbs := hbel.size
    clear hv hbel hl
    by_cases hlt : k < 32
    · have HE : Hid (burstTo l at_ mask (k + 1) = if mask / 2 ^ k % 2 = 1 then turnL (burstTo l at_ mask k) (at_ + k) else burstTo l at_ mask k) := rfl
      go_wp2_with (go_at_call 35; refine (turn_all _ _ _ _ _ (at_ + k) HV.out hsz (by omega)).mono ?_; rintro e w2 ⟨v2, rfl, hown2, hb2⟩)
      · go_roundw
        case rel =>
          have hb : (bits BinOp.and IntKind.u32 ((mask : Int) / 2 ^ k) 1 == 1) = true := by assumption
          rw [bit_int1 _ _ hm] at hb
          have := HE.out
          rw [if_pos (by simpa using hb)] at this
          exact ⟨k + 1, by omega, by go_num, by rw [this]; exact Sl.ofOwn hown2, HB.out.trans (hb2.mono hbs)⟩
        case measure => simp [intOf]; omega
      · go_roundw
        case rel =>
          have hb : (bits BinOp.and IntKind.u32 ((mask : Int) / 2 ^ k) 1 == 1) = false := by assumption
          rw [bit_int1 _ _ hm] at hb
          have := HE.out
          rw [if_neg (by simpa using hb)] at this
          exact ⟨k + 1, by omega, by go_num, by rw [this]; exact HV.out, HB.out⟩
        case measure => simp [intOf]; omega
    · obtain rfl : k = 32 := by omega
      go_wp2_with (at_builtin; refine wpL_append0 et23 rfl _ _ rfl w.heap.size rfl HV.out rfl (bvs_one _) (by omega) (by simp [maxLen]; omega) hbs ?_; intro v2 w2 hown2 hg2; have hb2 := below_append0 HB.out hbs hg2; clear hg2)
      go_ret
      exact ⟨_, rfl, hown2, hb2⟩
end Go.Proofs.YtobagfndagjajaaDoor.Crc
namespace Go.Proofs.YtobagfndagjajaaDoor
theorem digs4 (s : Nat) : digs s 4 = Crc.le4 s := by
  have e : ∀ x, UInt8.ofNat (x % 256) = UInt8.ofNat x := fun x => UInt8.toNat_inj.1 (by simp)
  simp [digs, Crc.le4, List.range_succ, e]
theorem blkL_seal (K : UInt8) (b : List UInt8) : blkL K b = Crc.sealL (blkP K b) := by rw [blkL, digs4]; rfl
theorem opOk_sum {b : List UInt8} (h : opOk b = true) : Crc.extend 0 b = 558161692 := by
  rw [← (open_seal h).2, blkL_seal]
  exact Crc.seal_sum _
theorem burst_law (K : UInt8) (b : List UInt8) (hK : K ≠ 0) (hb : b.length ≤ 248) (at_ mask : Nat) (hat : at_ ≤ 2048) :
    opOk (Crc.burstTo (blkL K b) at_ mask 32) = decide (Crc.burstTo (blkL K b) at_ mask 32 = blkL K b) := by
  have hl := blkL_len K b hb
  cases ho : opOk (Crc.burstTo (blkL K b) at_ mask 32) with
  | true =>
    have h := opOk_sum ho
    rw [blkL_seal] at h hl ⊢
    exact (decide_eq_true (Crc.burst_seal2 _ _ _ (by omega) h)).symm
  | false =>
    refine (decide_eq_false fun h => ?_).symm
    rw [h, (seal_open K b hK hb).1] at ho
    cases ho
end Go.Proofs.YtobagfndagjajaaDoor
