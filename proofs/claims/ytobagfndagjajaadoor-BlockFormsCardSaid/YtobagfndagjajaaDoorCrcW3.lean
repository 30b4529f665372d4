/-
  The walks of the law's helpers: Sum, Seal, Turn, Burst, works. Conditions: the slices read as bytes and are short enough.
-/
import Derived.Test.YtobagfndagjajaaDoorCrcW2
namespace Go.Proofs.YtobagfndagjajaaDoor.Crc
open Go.RowKit
set_option linter.unusedVariables false

theorem crcSum_any (a : Option Addr) (n c : Nat) (l : List UInt8) (w : World) (hl : Sl w 1 (.slice a n c) n (bvs l)) :
    Calls Tryd.prog 26 #[.slice a n c] w fun e w' => e = .returned (.int .u32 (extend 0 l : Nat)) ∧ Below w.heap.size w w' := by
  have HL := Lib.hid hl
  clear hl
  go_enter Tryd.func26, Tryd.ntmps26
  go_wp2_with (go_at_call 41; refine (crcExtend_any 0 (by decide) a n c l _ HL.out).mono ?_; rintro e w1 ⟨rfl, hb1⟩)
  go_ret
  exact ⟨rfl, hb1⟩
theorem refSum_any (a : Option Addr) (n c : Nat) (l : List UInt8) (w : World) (hl : Sl w 1 (.slice a n c) n (bvs l)) (hsz : n ≤ 10000) :
    Calls Tryd.prog 29 #[.slice a n c] w fun e w' => e = .returned (.int .u32 (refExtend 0 l : Nat)) ∧ Below w.heap.size w w' := by
  have HL := Lib.hid hl
  clear hl
  go_enter Tryd.func29, Tryd.ntmps29
  go_wp2_with (go_at_call 42; refine (refExtend_any 0 (by decide) a n c l _ HL.out hsz).mono ?_; rintro e w1 ⟨rfl, hb1⟩)
  go_ret
  exact ⟨rfl, hb1⟩

theorem u8x (x : UInt8) (k : Nat) : bits BinOp.xor IntKind.u8 (x.toNat : Int) (2 ^ k % 256) = ((x ^^^ UInt8.ofNat (2 ^ k)).toNat : Int) := by
  have h := u8_xor_nat x.toNat (2 ^ k % 256) x.toNat_lt (Nat.mod_lt _ (by decide))
  have e : ((2 ^ k % 256 : Nat) : Int) = (2 : Int) ^ k % 256 := by simp
  rw [e] at h
  rw [h]
  simp [UInt8.toNat_xor]
set_option maxHeartbeats 400000 in
theorem turn_any (a : Option Addr) (n c : Nat) (l : List UInt8) (w : World) (bit : Nat) (hl : Sl w 1 (.slice a n c) n (bvs l)) (hsz : n ≤ 10000) (hbit : bit < 8 * n) :
    Calls Tryd.prog 35 #[.slice a n c, .int .i64 bit] w fun e w' => ∃ v, e = .returned v ∧ w'.ownsRow w.heap.size 5 1 v n (bvs (turnL l bit)) ∧ Below w.heap.size w w' := by
  have HL := Lib.hid hl
  have hn := hl.len
  clear hl
  go_enter Tryd.func35, Tryd.ntmps35
  go_wp2_with (at_builtin; refine wpL_append0 et23 rfl _ _ rfl w.heap.size rfl HL.out rfl (bvs_one l) (by omega) (by simp [maxLen]; omega) (Nat.le_refl _) ?_; intro v2 w2 hown2 hg2; have hb2 := below_append0 (Below.refl _ _) (Nat.le_refl _) hg2; clear hg2; obtain ⟨g, cap, rfl, hg1, hg2, hcap, _⟩ := own_open hown2 (by omega); have c1 := own_get hown2 (bit / 8) (by omega); rw [bvs_get _ _ (by omega)] at c1; have c2 := hown2.frozenAt (bit / 8); have HO := Lib.hid hown2; have HB := Lib.hid hb2; clear hown2 hb2)
  go_ret
  refine ⟨_, rfl, ?_, HB.out.setCell hg1 _⟩
  have := own_set HO.out (bit / 8) (.int .u8 ((l.getD (bit / 8) 0 ^^^ UInt8.ofNat (2 ^ (bit % 8))).toNat : Int))
  rw [bvs_set] at this
  rw [← u8x] at this
  exact this

theorem bit_int1 (x m : Nat) (hx : x < 4294967296) : (bits BinOp.and IntKind.u32 ((x : Int) / 2 ^ m) 1 == 1) = (x / 2 ^ m % 2 == 1) := by
  have e : ((x : Int) / 2 ^ m) = ((x / 2 ^ m : Nat) : Int) := by simp
  have hl : x / 2 ^ m < 4294967296 := Nat.lt_of_le_of_lt (Nat.div_le_self _ _) hx
  rw [e, bit1 _ hl]
  generalize x / 2 ^ m % 2 = y
  rw [Bool.eq_iff_iff]; simp only [beq_iff_eq]; omega

set_option maxHeartbeats 400000 in
theorem burst_any (a : Option Addr) (n c : Nat) (l : List UInt8) (w : World) (at_ mask : Nat) (hl : Sl w 1 (.slice a n c) n (bvs l)) (hsz : n ≤ 10000) (hat : at_ + 32 ≤ 8 * n) (hm : mask < 4294967296) :
    Calls Tryd.prog 18 #[.slice a n c, .int .i64 at_, .int .u32 mask] w fun e w' => ∃ v, e = .returned v ∧ w'.ownsRow w.heap.size 5 1 v n (bvs (burstTo l at_ mask 32)) ∧ Below w.heap.size w w' := by
  have hn := hl.len
  go_enter Tryd.func18, Tryd.ntmps18
  go_wp2
  go_loopw [0, 7] (fun v i wr => ∃ k : Nat, k ≤ 32 ∧ i = .int .i64 k ∧ Sl wr 1 v n (bvs (burstTo l at_ mask k)) ∧ Below w.heap.size w wr) (fun _ i _ => 32 - (intOf i).toNat)
  case atStart => exact ⟨0, by omega, rfl, hl, Below.refl _ _⟩
  case round =>
    obtain ⟨k, hk, rfl, hv, hbel⟩ := hrel
    obtain ⟨a, c, rfl⟩ := hv.form
    have HV := Lib.hid hv
    have HB := Lib.hid hbel
    have hbs := hbel.size
    clear hv hbel hl
    by_cases hlt : k < 32
    · have HE : Hid (burstTo l at_ mask (k + 1) = if mask / 2 ^ k % 2 = 1 then turnL (burstTo l at_ mask k) (at_ + k) else burstTo l at_ mask k) := rfl
      go_wp2_with (go_at_call 35; refine (turn_any _ _ _ _ _ (at_ + k) HV.out hsz (by omega)).mono ?_; rintro e w2 ⟨v2, rfl, hown2, hb2⟩)
      · go_roundw
        case rel =>
          have hb : (bits BinOp.and IntKind.u32 ((mask : Int) / 2 ^ k) 1 == 1) = true := by assumption
          rw [bit_int1 _ _ hm] at hb
          have := HE.out
          rw [if_pos (by simpa using hb)] at this
          exact ⟨k + 1, by omega, by go_num, by rw [this]; exact Sl.ofOwn hown2, HB.out.trans (hb2.mono hbs)⟩
        case measure => simp [intOf]; omega
      · go_roundw
        case rel =>
          have hb : (bits BinOp.and IntKind.u32 ((mask : Int) / 2 ^ k) 1 == 1) = false := by assumption
          rw [bit_int1 _ _ hm] at hb
          have := HE.out
          rw [if_neg (by simpa using hb)] at this
          exact ⟨k + 1, by omega, by go_num, by rw [this]; exact HV.out, HB.out⟩
        case measure => simp [intOf]; omega
    · obtain rfl : k = 32 := by omega
      go_wp2_with (at_builtin; refine wpL_append0 et23 rfl _ _ rfl w.heap.size rfl HV.out rfl (bvs_one _) (by omega) (by simp [maxLen]; omega) hbs ?_; intro v2 w2 hown2 hg2; have hb2 := below_append0 HB.out hbs hg2; clear hg2)
      go_ret
      exact ⟨_, rfl, hown2, hb2⟩
end Go.Proofs.YtobagfndagjajaaDoor.Crc
