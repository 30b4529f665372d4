/-
  The walks of the reference's functions: bits, divisor, Extend. Conditions: the slice reads as bytes, and is short enough for its bits.
-/
import Derived.Test.YtobagfndagjajaaDoorCrcW1
import Derived.Test.YtobagfndagjajaaDoorCrcZ
import Derived.BigQuiet
import Derived.RegionTactic
import Derived.ChangeAlike
import Derived.Deep.QuietTactic
import Derived.Deep.RegionWith
namespace Go.Proofs.YtobagfndagjajaaDoor.Crc
open Go.RowKit

theorem bit_int (x m : Nat) : (((x : Int) / 2 ^ m).tmod 2 == 1) = (x / 2 ^ m % 2 == 1) := by
  have h : ((x : Int) / 2 ^ m).tmod 2 = ((x / 2 ^ m % 2 : Nat) : Int) := by
    have e : ((x : Int) / 2 ^ m) = ((x / 2 ^ m : Nat) : Int) := by simp
    rw [e]; rfl
  rw [h]
  generalize x / 2 ^ m % 2 = y
  rw [Bool.eq_iff_iff]; simp only [beq_iff_eq]; omega
theorem bit_int0 (x m : Nat) : (((x : Int) / 2 ^ m).tmod 2 == 0) = (x / 2 ^ m % 2 == 0) := by
  have h : ((x : Int) / 2 ^ m).tmod 2 = ((x / 2 ^ m % 2 : Nat) : Int) := by
    have e : ((x : Int) / 2 ^ m) = ((x / 2 ^ m : Nat) : Int) := by simp
    rw [e]; rfl
  rw [h]
  generalize x / 2 ^ m % 2 = y
  rw [Bool.eq_iff_iff]; simp only [beq_iff_eq]; omega
theorem et40 : ET Tryd.prog 81 4 (.bool false) 1 1 := ⟨Tryd.underlying81, by kernel_rfl, rfl, by decide⟩
theorem et23 : ET Tryd.prog 22 5 (.int .u8 0) 1 1 := ⟨Tryd.underlying22, by kernel_rfl, rfl, by decide⟩

set_option maxHeartbeats 400000 in
theorem bits_any (a : Option Addr) (n c : Nat) (l : List UInt8) (w : World) (hl : Sl w 1 (.slice a n c) n (bvs l)) (hsz : n ≤ 100000) :
    Calls Tryd.prog 50 #[.slice a n c] w fun e w' => ∃ v, e = .returned v ∧ w'.ownsRow w.heap.size 4 1 v (8 * n) (bos (bitsOf l)) ∧ Below w.heap.size w w' := by
  have hn := hl.len
  have HL := Lib.hid hl
  clear hl
  go_enter Tryd.func50, Tryd.ntmps50
  go_wp2
  go_loopw [3, 4] (fun v i wr => ∃ k : Nat, k ≤ n ∧ i = .int .i64 k ∧ wr.ownsRow w.heap.size 4 1 v (8 * k) (bos (bitsOf (l.take k))) ∧ Below w.heap.size w wr) (fun _ i _ => n - (intOf i).toNat)
  case atStart => exact ⟨0, by omega, rfl, World.ownsRow_nil _ _ _ _, Below.refl _ _⟩
  case round =>
    obtain ⟨k, hk, rfl, hown, hbel⟩ := hrel
    by_cases hlt : k < n
    · obtain ⟨b, off, rfl, hcell⟩ := HL.out.byte hlt
      have HC := Lib.hid hcell
      have HO := Lib.hid hown
      have HB := Lib.hid hbel
      have HT : Hid (bitsOf (l.take (k + 1)) = bitsOf (l.take k) ++ bitsB 8 (l.getD k 0)) := by rw [take_snoc l k (by omega), bitsOf_snoc]; rfl
      have hx := (l.getD k 0).toNat_lt
      generalize hcc : l.getD k 0 = cc at *
      clear hcell hown hbel hcc
      go_wp2
      obtain ⟨wo, rfl⟩ : ∃ wo : World, wo = wr := ⟨_, rfl⟩
      go_loopw [3, 5] (fun v j wr => ∃ m : Nat, m ≤ 8 ∧ j = .int .i64 m ∧ wr.ownsRow w.heap.size 4 1 v (8 * k + m) (bos (bitsOf (l.take k) ++ bitsB m cc)) ∧ Below w.heap.size w wr) (fun _ j _ => 8 - (intOf j).toNat)
      case atStart => exact ⟨0, by omega, rfl, by simpa [bitsB] using HO.out, HB.out⟩
      case round =>
        obtain ⟨m, hm, rfl, hown, hbel⟩ := hrel
        have hc2 : wr.cell? ⟨b, off + k, none⟩ = some (.int .u8 (cc.toNat : Int)) := cell_later hbel HC.out
        have HB2 := Lib.hid hbel
        have hsz2 := hbel.size
        clear hbel
        by_cases hm8 : m < 8
        · go_wp2_with (at_builtin; (refine wpL_append et40 rfl _ _ rfl (hown.alloc _) rfl (Sl.one _ _ _) rfl (by simp [Value.oneCell']) (by omega) (by simp [maxLen]; omega) (by simp; omega) ?_); intro v2 w2 hown2 hg2)
          have HO3 := Lib.hid hown
          have HO4 : Hid (w2.ownsRow w.heap.size 4 1 v2 (8 * k + (m + 1)) (bos (bitsOf (l.take k) ++ bitsB (m + 1) cc))) := by
            have e : bos (bitsOf (l.take k) ++ bitsB (m + 1) cc) = bos (bitsOf (l.take k) ++ bitsB m cc) ++ [Value.bool (((cc.toNat : Int) / 2 ^ m).tmod 2 == 1)] := by
              rw [bitsB_succ, ← List.append_assoc]
              rw [bit_int]; simp [bos]
            rw [e]; exact hown2
          clear hown hown2
          go_wp2
          go_roundw
          case rel => exact ⟨m + 1, by omega, by go_num, HO4.out, below_own (HB2.out.alloc hsz2 _) (HO3.out.alloc _) hg2 (Nat.le_refl _) (by simp; omega)⟩
          case measure => simp [intOf]; omega
        · obtain rfl : m = 8 := by omega
          have HO2 := Lib.hid hown
          clear hown
          go_wp2
          go_roundw
          case rel => exact ⟨k + 1, by omega, by go_num, by rw [HT.out]; exact HO2.out, HB2.out⟩
          case measure => simp [intOf]; omega
    · obtain rfl : k = n := by omega
      have HO := Lib.hid hown
      have HB := Lib.hid hbel
      clear hown hbel
      go_wp2
      go_ret
      refine ⟨_, rfl, ?_, HB.out⟩
      have := HO.out
      rwa [List.take_of_length_le (by omega)] at this


set_option maxHeartbeats 400000 in
theorem divisor_any (w : World) :
    Calls Tryd.prog 51 #[] w fun e w' => ∃ v, e = .returned v ∧ w'.ownsRow w.heap.size 4 1 v 33 (bos (dvs 15)) ∧ Below w.heap.size w w' := by
  go_enter Tryd.func51, Tryd.ntmps51
  go_wp2_with (at_make; refine wpL_make et40 rfl rfl _ _ rfl 33 w.heap.size rfl rfl rfl rfl (by decide) (by decide) (Nat.le_refl _) ?_; intro w1 hown hg1)
  have hb : Below w.heap.size w w1 := (Below.refl _ _).grown hg1 (Nat.le_refl _) (fun k e => by cases e)
  have hsz := hb.size
  have hlt0 := (hown.lt _ rfl).2
  rw [bos_replicate] at hown
  go_loopw [3] (fun i wr => ∃ k : Nat, k ≤ 15 ∧ i = .int .i64 k ∧ wr.ownsRow w.heap.size 4 1 (.slice (some ⟨w.heap.size, 0, none⟩) 33 33) 33 (bos (dvs k)) ∧ Row wr w1.heap.size 3 (ints powersL) ∧ Below w.heap.size w wr) (fun i _ => 15 - (intOf i).toNat)
  case atStart => exact ⟨0, by omega, rfl, hown.alloc _, Row.new _ _ _, hb.alloc hsz _⟩
  case round =>
    obtain ⟨k, hk, rfl, hown, hrow, hbel⟩ := hrel
    have HO := Lib.hid hown
    have HB := Lib.hid hbel
    have HR := Lib.hid hrow
    by_cases hlt : k < 15
    · have c1 : wr.cell? ⟨w1.heap.size, k, none⟩ = some (.int .i64 (powersL.getD k 0)) := by rw [hrow.cell, ints_get _ _ (by exact hlt)]
      have hp : 0 ≤ powersL.getD k 0 ∧ powersL.getD k 0 ≤ 32 := by
        have : ∀ k, k < 15 → 0 ≤ powersL.getD k 0 ∧ powersL.getD k 0 ≤ 32 := by decide
        exact this k hlt
      have HD : Hid (dvs (k + 1) = (dvs k).set (32 - powersL.getD k 0).toNat true) := rfl
      generalize powersL.getD k 0 = p at *
      obtain ⟨q, hq⟩ : ∃ q : Nat, 32 - p = (q : Int) := ⟨(32 - p).toNat, by omega⟩
      have c2 := own_get hown q (by omega)
      rw [bos_get _ _ (by rw [dvs_len]; omega)] at c2
      have c3 := hown.frozenAt q
      clear hown hrow hbel
      have HQ : Hid ((32 - p).toNat = q) := by show (32 - p).toNat = q; omega
      have hq33 : q < 33 := by omega
      go_wp2
      go_roundw
      case rel =>
        refine ⟨k + 1, by omega, by go_num, ?_, HR.out.other (by show w1.heap.size ≠ w.heap.size; simp at hlt0; omega) _, HB.out.setCell (Nat.le_refl _) _⟩
        have := own_set HO.out q (.bool true)
        have HQ' := HQ.out
        have HD' := HD.out
        rw [HQ'] at HD'
        rwa [bos_set, ← HD'] at this
      case measure => simp [intOf]; omega
    · obtain rfl : k = 15 := by omega
      have HLEN : Hid (powersL.length = 15) := rfl
      clear hown hrow hbel
      go_wp2
      go_ret
      exact ⟨_, rfl, HO.out, HB.out⟩

/-! ### the long division -/
set_option maxHeartbeats 800000 in
theorem refExtend_any (s : Nat) (_hs : s < 4294967296) (a : Option Addr) (n c : Nat) (l : List UInt8) (w : World) (hl : Sl w 1 (.slice a n c) n (bvs l)) (hsz : n ≤ 10000) :
    Calls Tryd.prog 42 #[.int .u32 s, .slice a n c] w fun e w' => e = .returned (.int .u32 (refExtend s l : Nat)) ∧ Below w.heap.size w w' := by
  have hn := hl.len
  have HL := Lib.hid hl
  clear hl
  go_enter Tryd.func42, Tryd.ntmps42
  go_wp2_with (first | (go_at_call 50; refine (bits_any _ _ _ l _ HL.out (by omega)).mono ?_; rintro e w1 ⟨v1, rfl, hown, hb1⟩) | (at_builtin; refine wpL_append_zeros et40 rfl rfl Tryd.underlying3 rfl _ _ rfl rfl hown 32 rfl rfl (by decide) (by omega) (by simp [maxLen]; omega) hb1.size ?_; intro v2 w2 hown2 hg2))
  have hb2 := below_own hb1 hown hg2 (Nat.le_refl _) hb1.size
  clear hown hb1 hg2
  have hlen : (bitsOf l).length = 8 * n := by rw [bitsOf_len]; omega
  rw [bos_replicate, ← bos_append] at hown2
  obtain ⟨g, cap, rfl, hg1, hg2, hcap, _⟩ := own_open hown2 (by omega)
  obtain ⟨L, hL⟩ : ∃ L, L = bitsOf l ++ List.replicate 32 false := ⟨_, rfl⟩
  have hLl : L.length = 8 * n + 32 := by rw [hL]; simp [hlen]
  rw [← hL] at hown2
  have HH := Lib.hid hL
  have HLL := Lib.hid hLl
  clear hL hlen hLl
  go_loopw [6] (fun i wr => ∃ k : Nat, k ≤ 32 ∧ i = .int .i64 k ∧ wr.ownsRow w.heap.size 4 1 (.slice (some ⟨g, 0, none⟩) (8 * n + 32) cap) (8 * n + 32) (bos (flip32 s k L)) ∧ Below w.heap.size w wr) (fun i _ => 32 - (intOf i).toNat)
  case atStart => exact ⟨0, by omega, rfl, hown2, hb2⟩
  case round =>
    obtain ⟨k, hk, rfl, hown, hbel⟩ := hrel
    have HO := Lib.hid hown
    have HB := Lib.hid hbel
    have hbs := hbel.size
    by_cases hlt : k < 32
    · have hfl : Hid ((flip32 s k L).length = 8 * n + 32) := (flip32_len s k L).trans HLL.out
      have c2 := own_get hown k (by omega)
      rw [bos_get _ _ (by rw [hfl.out]; omega)] at c2
      have c3 := hown.frozenAt k
      have HS : Hid _ := flip32_succ s k L
      clear hown hbel
      generalize flip32 s k L = M at *
      go_wp2
      · go_roundw
        case rel =>
          have hb : (((s : Int) / 2 ^ k).tmod 2 == 0) = true := by assumption
          rw [bit_int0] at hb
          have := HS.out
          rw [if_pos (by simpa using hb)] at this
          refine ⟨k + 1, by omega, by go_num, ?_, HB.out.setCell hg1 _⟩
          rw [this, ← bos_set]
          exact own_set HO.out k _
        case measure => simp [intOf]; omega
      · go_roundw
        case rel =>
          have hb : (((s : Int) / 2 ^ k).tmod 2 == 0) = false := by assumption
          rw [bit_int0] at hb
          have := HS.out
          rw [if_neg (by simpa using hb)] at this
          refine ⟨k + 1, by omega, by go_num, ?_, HB.out⟩
          rw [this]
          exact HO.out
        case measure => simp [intOf]; omega
    · obtain rfl : k = 32 := by omega
      have hfl : (flip32 s 32 L).length = 8 * n + 32 := (flip32_len s 32 L).trans HLL.out
      obtain ⟨M, hM⟩ : ∃ M, M = flip32 s 32 L := ⟨_, rfl⟩
      rw [← hM] at hfl hown
      have HO := Lib.hid hown
      have HB := Lib.hid hbel
      have HM := Lib.hid hM
      have HF := Lib.hid hfl
      clear hown hbel hM hfl hown2 hb2
      go_wp2_with (go_at_call 51; refine (divisor_any _).mono ?_; rintro e w3 ⟨v3, rfl, hown3, hb3⟩)
      obtain ⟨g3, cap3, rfl, hg3, hg3', hcap3, _⟩ := own_open hown3 (by decide)
      have hgl : g < wr.heap.size := (HO.out.lt g rfl).2
      have hO3 := own_below HO.out hb3
      have hB3 := HB.out.trans (hb3.mono hbs)
      obtain ⟨D, hD⟩ : ∃ D, D = dvs 15 := ⟨_, rfl⟩
      have hDl : D.length = 33 := by rw [hD]; rfl
      rw [← hD] at hown3
      have HD := Lib.hid hD
      have HDl := Lib.hid hDl
      have hne : g ≠ g3 := by omega
      clear hD hDl hb3 HO
      go_loopw [8] (fun i wr => ∃ k : Nat, k ≤ 8 * n ∧ i = .int .i64 k ∧ wr.ownsRow w.heap.size 4 1 (.slice (some ⟨g, 0, none⟩) (8 * n + 32) cap) (8 * n + 32) (bos (divTo D k M)) ∧ wr.ownsRow w.heap.size 4 1 (.slice (some ⟨g3, 0, none⟩) 33 cap3) 33 (bos D) ∧ Below w.heap.size w wr) (fun i _ => 8 * n - (intOf i).toNat)
      case atStart => exact ⟨0, by omega, rfl, hO3, own_mono hown3 hbs, hB3⟩
      case round =>
        clear hO3 hown3 hB3
        rename_i wr0 _
        obtain ⟨k, hk, rfl, hown, hownD, hbel⟩ := hrel
        by_cases hlt : k < 8 * n
        · have hXl : (divTo D k M).length = 8 * n + 32 := (divTo_len D k M).trans HF.out
          have HS := Lib.hid (divTo_succ D k M)
          generalize divTo D k M = X at *
          have HXl := Lib.hid hXl
          have c1 := own_get hown k (by omega)
          rw [bos_get _ _ (by omega)] at c1
          cases hx : X.getD k false with
          | false =>
            rw [hx] at c1
            have HO := Lib.hid hown
            have HOD := Lib.hid hownD
            have HB2 := Lib.hid hbel
            have HX := Lib.hid hx
            clear hown hownD hbel hXl hx
            go_wp2
            go_roundw
            case rel => exact ⟨k + 1, by omega, by go_num, by have := HS.out; rw [if_pos HX.out] at this; rw [this]; exact HO.out, HOD.out, HB2.out⟩
            case measure => simp [intOf]; omega
          | true =>
            rw [hx] at c1
            have HO := Lib.hid hown
            have HOD := Lib.hid hownD
            have HB2 := Lib.hid hbel
            have HX := Lib.hid hx
            clear hown hownD hbel hXl hx
            go_wp2
            obtain ⟨wo, rfl⟩ : ∃ wo : World, wo = wr := ⟨_, rfl⟩
            go_loopw [9] (fun i wr => ∃ m : Nat, m ≤ 33 ∧ i = .int .i64 m ∧ wr.ownsRow w.heap.size 4 1 (.slice (some ⟨g, 0, none⟩) (8 * n + 32) cap) (8 * n + 32) (bos (subAt D k m X)) ∧ wr.ownsRow w.heap.size 4 1 (.slice (some ⟨g3, 0, none⟩) 33 cap3) 33 (bos D) ∧ Below w.heap.size w wr) (fun i _ => 33 - (intOf i).toNat)
            case atStart => exact ⟨0, by omega, rfl, HO.out, HOD.out, HB2.out⟩
            case round =>
              obtain ⟨m, hm, rfl, hown, hownD, hbel⟩ := hrel
              have hYl : (subAt D k m X).length = 8 * n + 32 := (subAt_len D k m X).trans HXl.out
              have HSS := Lib.hid (subAt_succ D k m X)
              have HY0 := Lib.hid (show m = 33 → subAt D k m X = subAt D k 33 X from fun h => by rw [h])
              generalize subAt D k m X = Y at *
              have HO := Lib.hid hown
              have HOD := Lib.hid hownD
              have HB2 := Lib.hid hbel
              by_cases hm33 : m < 33
              · have c1 := own_get hown (k + m) (by omega)
                rw [bos_get _ _ (by omega)] at c1
                have c2 := hown.frozenAt (k + m)
                have c3 := own_get hownD m (by omega)
                rw [bos_get _ _ (by rw [HDl.out]; omega)] at c3
                clear hown hownD hbel hYl
                have l1 : k + m < 8 * n + 32 := by omega
                have l2 : (0 : Int) ≤ (k : Int) + (m : Int) := by omega
                have l3 : (k : Int) + (m : Int) < 8 * (n : Int) + 32 := by omega
                go_wp2
                go_region
                go_wp2
                go_roundw
                case rel =>
                  refine ⟨m + 1, by omega, by go_num, ?_, own_other HOD.out hne.symm _, (HB2.out.setCell (p := ⟨g, k + m, none⟩) hg1 _).drew⟩
                  have := own_set HO.out (k + m) (.bool (Y.getD (k + m) false != D.getD m false))
                  rw [bos_set, ← HSS.out] at this
                  exact this
                case measure => simp [intOf]; omega
              · obtain rfl : m = 33 := by omega
                clear hown hownD hbel hYl
                go_wp2
                go_roundw
                case rel => exact ⟨k + 1, by omega, by go_num, by have := HS.out; rw [if_neg (by rw [HX.out]; decide)] at this; rw [this, ← HY0.out rfl]; exact HO.out, HOD.out, HB2.out⟩
                case measure => simp [intOf]; omega
        · obtain rfl : k = 8 * n := by omega
          have hXl : (divTo D (8 * n) M).length = 8 * n + 32 := (divTo_len D (8 * n) M).trans HF.out
          obtain ⟨X, hX⟩ : ∃ X, X = divTo D (8 * n) M := ⟨_, rfl⟩
          rw [← hX] at hXl hown
          have HO := Lib.hid hown
          have HOD := Lib.hid hownD
          have HB2 := Lib.hid hbel
          have HX := Lib.hid hX
          have HXl := Lib.hid hXl
          clear hown hownD hbel hX hXl
          go_wp2
          go_loop [10, 11] (fun o i => ∃ k : Nat, k ≤ 32 ∧ i = .int .i64 k ∧ o = .int .u32 (outTo X k : Nat)) (fun _ i => 32 - (intOf i).toNat)
          case atStart => exact ⟨0, by omega, rfl, rfl⟩
          case round =>
            obtain ⟨q, hq, rfl, rfl⟩ := hrel
            have HS := Lib.hid (outTo_succ X q)
            have hlo := outTo_lt X q
            by_cases hq32 : q < 32
            · have c1 := own_get HO.out (8 * n + q) (by omega)
              rw [bos_get _ _ (by rw [HXl.out]; omega)] at c1
              have hpow : (2 : Nat) ^ q ≤ 2147483648 := by
                have : (2 : Nat) ^ q ≤ 2 ^ 31 := Nat.pow_le_pow_right (by decide) (by omega)
                simpa using this
              have HP := Lib.hid hpow
              have HLO := Lib.hid hlo
              clear hpow hlo
              go_wp2
              · go_round
                case rel =>
                  have hb : (!X[8 * n + q]?.getD false) = true := by assumption
                  have := HS.out
                  rw [HXl.out, show 8 * n + 32 - 32 + q = 8 * n + q from by omega, if_pos (by simpa using hb)] at this
                  refine ⟨q + 1, by omega, by go_num, ?_⟩
                  rw [this]
                  have h1 := HP.out
                  have h2 := HLO.out
                  have e : ((2 : Int) ^ q) = ((2 ^ q : Nat) : Int) := by simp
                  rw [e]
                  generalize 2 ^ q = P at *
                  generalize outTo X q = O at *
                  congr 1
                  omega
                case measure => simp [intOf]; omega
              · go_round
                case rel =>
                  have hb : (!X[8 * n + q]?.getD false) = false := by assumption
                  have := HS.out
                  rw [HXl.out, show 8 * n + 32 - 32 + q = 8 * n + q from by omega, if_neg (by simpa using hb)] at this
                  exact ⟨q + 1, by omega, by go_num, by rw [this]⟩
                case measure => simp [intOf]; omega
            · obtain rfl : q = 32 := by omega
              go_wp2
              go_ret
              refine ⟨?_, HB2.out⟩
              have e := (flip32_len s 32 L).trans HLL.out
              rw [HX.out, HM.out, HD.out, refExtend, ← HH.out]
              simp only [e]
              rfl

end Go.Proofs.YtobagfndagjajaaDoor.Crc
