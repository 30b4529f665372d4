/-
  The document's answer for octet, walked: power, there, Get, Put, Cut, Fill.
-/
import Derived.Test.YtoddklfblcfoiaaDoorOctR
namespace Go.Proofs.YtoddklfblcfoiaaDoor
open Go.RowKit
set_option linter.unusedVariables false

def powN (k : Int) : Nat := if k = 1 then 256 else if k = 2 then 65536 else if k = 4 then 4294967296 else 0
theorem power_any (k : Int) (w : World) : Calls Tryd.prog 59 #[.int .i64 k] w fun e w' => e = .returned (.tuple #[.int .u64 (powN k), .bool (saysB k)]) ∧ w = w' := by
  by_cases h1 : k = 1
  · subst h1
    go_enter Tryd.func59, Tryd.ntmps59
    go_wp2
    go_ret2
    exact ⟨rfl, rfl⟩
  by_cases h2 : k = 2
  · subst h2
    go_enter Tryd.func59, Tryd.ntmps59
    go_wp2
    go_ret2
    exact ⟨rfl, rfl⟩
  by_cases h4 : k = 4
  · subst h4
    go_enter Tryd.func59, Tryd.ntmps59
    go_wp2
    go_ret2
    exact ⟨rfl, rfl⟩
  have e1 : (k == 1) = false := by simpa using h1
  have e2 : (k == 2) = false := by simpa using h2
  have e4 : (k == 4) = false := by simpa using h4
  go_enter Tryd.func59, Tryd.ntmps59
  go_wp2
  go_ret2
  exact ⟨by simp [powN, saysB, h1, h2, h4, e1, e2, e4], rfl⟩

theorem there_any (a : Option Addr) (n c : Nat) (l : List UInt8) (w : World) (at_ k : Int) (hl : l.length = n) (hat : at_ ≤ n) (hsz : n ≤ 140737488355328) :
    Calls Tryd.prog 73 #[.slice a n c, .int .i64 at_, .int .i64 k] w fun e w' => e = .returned (.bool (cutIs l at_ k)) ∧ w = w' := by
  by_cases h1 : at_ < 0
  · have HC : Hid (cutIs l at_ k = false) := by show _ = _; simp [cutIs]; omega
    go_enter Tryd.func73, Tryd.ntmps73
    go_wp2
    go_ret
    exact ⟨by rw [HC.out]; rfl, rfl⟩
  by_cases h2 : k < 0
  · have HC : Hid (cutIs l at_ k = false) := by show _ = _; simp [cutIs]; omega
    go_enter Tryd.func73, Tryd.ntmps73
    go_wp2
    go_ret
    exact ⟨by rw [HC.out]; rfl, rfl⟩
  obtain ⟨p, rfl⟩ : ∃ p : Nat, at_ = p := ⟨at_.toNat, by omega⟩
  have HC : Hid (cutIs l p k = decide (k ≤ (n : Int) - p)) := by
    show _ = _
    rw [cutIs, hl]
    have e1 : decide ((0 : Int) ≤ p) = true := by simp
    have e2 : decide ((p : Int) ≤ n) = true := by simpa using hat
    have e3 : decide (0 ≤ k) = true := by simp; omega
    rw [e1, e2, e3]; rfl
  go_enter Tryd.func73, Tryd.ntmps73
  go_wp2_with fail
  go_loop [7, 8] (fun v7 v8 => ∃ i : Nat, i ≤ p ∧ v8 = .int .i64 i ∧ v7 = .int .i64 ((n : Int) - i)) (fun _ v8 => p - (intOf v8).toNat)
  case atStart => exact ⟨0, Nat.zero_le _, rfl, by simp⟩
  case round =>
    obtain ⟨i, hi, rfl, rfl⟩ := hrel
    obtain ⟨r, hr⟩ : ∃ r : Int, (n : Int) - i = r := ⟨_, rfl⟩
    rw [hr]
    by_cases hip : i = p
    · subst hip
      go_wp2_with fail
      go_ret
      exact ⟨by rw [HC.out, hr]; rfl, rfl⟩
    · have hlt : (i : Int) < p := by omega
      have hr0 : (r == 0) = false := by rw [beq_eq_false_iff_ne]; omega
      have hr1 : 0 < r := by omega
      have hr2 : r ≤ 140737488355328 := by omega
      have HR := Lib.hid hr
      clear hr
      go_wp2_with fail
      go_round
      case rel => exact ⟨i + 1, by omega, by go_num, by have := HR.out; rw [show r - 1 = (n : Int) - ((i + 1 : Nat) : Int) by omega]⟩
      case measure => simp [intOf]; omega

theorem cutL_lenN (l : List UInt8) (p q : Nat) (h : p + q ≤ l.length) : (cutL l p q).length = q := by
  rw [cutL, show cutIs l p q = true by simp [cutIs]; omega]; simp; omega
theorem saysB_nat {k : Int} (h : saysB k = true) : ∃ m : Nat, k = m ∧ m ≤ 8 ∧ 0 < m := by
  simp only [saysB, Bool.or_eq_true, beq_iff_eq] at h
  exact ⟨k.toNat, by omega, by omega, by omega⟩

set_option maxHeartbeats 400000 in
theorem rget_any (a : Option Addr) (n c : Nat) (l : List UInt8) (w : World) (at_ k : Int) (hl : Sl w 1 (.slice a n c) n (bvs l)) (hsz : n ≤ 140737488355328) :
    Calls Tryd.prog 57 #[.slice a n c, .int .i64 at_, .int .i64 k] w fun e w' => e = .returned (.tuple #[.int .u64 (getN l at_ k), .int .i64 (getE l at_ k)]) ∧ w = w' := by
  have hn := hl.len
  have HL := Lib.hid hl
  clear hl
  have hbad : getIs l at_ k = false → getN l at_ k = 0 ∧ getE l at_ k = 1 := fun h => by simp [getN, getE, h]
  cases hk : saysB k with
  | false =>
    have HG : Hid (getIs l at_ k = false) := by show getIs l at_ k = false; simp [getIs, hk]
    rw [(hbad HG.out).1, (hbad HG.out).2]
    go_enter Tryd.func57, Tryd.ntmps57
    go_wp2_with fail
    refine (power_any k w).mono ?_
    rintro e w1 ⟨rfl, rfl⟩
    rw [hk]
    go_wp2_with fail
    go_ret2
    exact ⟨rfl, rfl⟩
  | true =>
    by_cases h2 : (n : Int) < at_
    · have HG : Hid (getIs l at_ k = false) := by show getIs l at_ k = false; simp [getIs, cutIs, hk]; omega
      rw [(hbad HG.out).1, (hbad HG.out).2]
      go_enter Tryd.func57, Tryd.ntmps57
      go_wp2_with fail
      refine (power_any k w).mono ?_
      rintro e w1 ⟨rfl, rfl⟩
      rw [hk]
      go_wp2_with fail
      go_ret2
      exact ⟨rfl, rfl⟩
    cases hc : cutIs l at_ k with
    | false =>
      have HG : Hid (getIs l at_ k = false) := by show getIs l at_ k = false; simp [getIs, hc]
      rw [(hbad HG.out).1, (hbad HG.out).2]
      go_enter Tryd.func57, Tryd.ntmps57
      go_wp2_with fail
      refine (power_any k w).mono ?_
      rintro e w1 ⟨rfl, rfl⟩
      rw [hk]
      go_wp2_with fail
      refine (there_any a n c l w at_ k hn.1 (by omega) hsz).mono ?_
      rintro e w2 ⟨rfl, rfl⟩
      rw [hc]
      go_wp2_with fail
      go_ret2
      exact ⟨rfl, rfl⟩
    | true =>
      obtain ⟨m, rfl, hm8, hm0⟩ := saysB_nat hk
      obtain ⟨p, rfl⟩ : ∃ p : Nat, at_ = p := ⟨at_.toNat, by simp [cutIs] at hc; omega⟩
      have hpm : p + m ≤ n := by simp [cutIs] at hc; omega
      obtain ⟨fl, hfl⟩ : ∃ fl, fl = cutL l p m := ⟨_, rfl⟩
      have hfm : fl.length = m := by rw [hfl]; exact cutL_lenN l p m (by omega)
      have hget : ∀ j, j < m → fl.getD j 0 = l.getD (p + j) 0 := by
        intro j hj
        rw [hfl, cutL, hc]
        simp [List.getElem?_take_of_lt hj]
      have HG : Hid (getN l p m = leN fl ∧ getE l p m = 0) := by
        show getN l p m = leN fl ∧ getE l p m = 0
        simp [getN, getE, getIs, hc, hk, hfl]
      rw [HG.out.1, HG.out.2]
      have HGet := Lib.hid hget
      have HFM := Lib.hid hfm
      clear hbad HG hfl hget hfm
      go_enter Tryd.func57, Tryd.ntmps57
      go_wp2_with fail
      refine (power_any m w).mono ?_
      rintro e w1 ⟨rfl, rfl⟩
      rw [hk]
      go_wp2_with fail
      refine (there_any a n c l w p m hn.1 (by omega) hsz).mono ?_
      rintro e w2 ⟨rfl, rfl⟩
      rw [hc]
      go_wp2_with fail
      go_loop [10, 11] (fun v10 v11 => ∃ i : Nat, i ≤ m ∧ v11 = .int .i64 ((m : Int) - 1 - i) ∧ v10 = .int .u64 ((leN (fl.drop (m - i)) : Nat) : Int)) (fun _ v11 => (intOf v11 + 1).toNat)
      case atStart => exact ⟨0, Nat.zero_le _, by simp, by rw [Nat.sub_zero, ← HFM.out, List.drop_length]; rfl⟩
      case round =>
        obtain ⟨i, hi, rfl, rfl⟩ := hrel
        by_cases him : i = m
        · subst him
          rw [show (i : Int) - 1 - i = -1 by omega, Nat.sub_self, List.drop_zero]
          go_wp2_with fail
          go_ret2
          exact ⟨rfl, rfl⟩
        · have hlt : i < m := by omega
          obtain ⟨y, hy⟩ : ∃ y : Nat, y = leN (fl.drop (m - i)) := ⟨_, rfl⟩
          have hy2 : y * 256 + 255 < 18446744073709551616 := by
            have h := leN_lt (fl.drop (m - i))
            rw [← hy, List.length_drop, HFM.out, show m - (m - i) = i by omega] at h
            have : 256 ^ i ≤ 256 ^ 7 := Nat.pow_le_pow_right (by decide) (by omega)
            omega
          obtain ⟨j, hj⟩ : ∃ j, j = m - 1 - i := ⟨_, rfl⟩
          have hstep : Hid (leN (fl.drop (m - (i + 1))) = y * 256 + (fl.getD j 0).toNat) := by
            show _ = _
            have := leN_drop fl i (by rw [HFM.out]; omega)
            rw [HFM.out] at this
            rw [hy, hj]; exact this
          rw [show (m : Int) - 1 - i = (j : Int) by omega, ← hy]
          obtain ⟨b, off, rfl, hc1⟩ := HL.out.byte (show p + j < n by omega)
          rw [← HGet.out j (by omega)] at hc1
          obtain ⟨z, hz⟩ : ∃ z : Nat, z = (fl.getD j 0).toNat := ⟨_, rfl⟩
          have hz2 : z < 256 := by rw [hz]; exact UInt8.toNat_lt _
          rw [← hz] at hc1 hstep
          have HJ := Lib.hid hj
          have hjb : p + j < n := by omega
          have hjb2 : (p : Int) + j < n := by omega
          clear hy hz hj
          go_wp2_with fail
          have hJ := HJ.out
          have e1 : (j : Int) - 1 = (m : Int) - 1 - ((i + 1 : Nat) : Int) := by omega
          have e2 : 256 * (y : Int) + (z : Int) = ((y * 256 + z : Nat) : Int) := by omega
          exact ⟨⟨i + 1, by omega, by rw [e1], by rw [hstep.out, e2]⟩, by simp [intOf]⟩

set_option maxHeartbeats 400000 in
theorem rcut_any (a : Option Addr) (n c : Nat) (l : List UInt8) (w : World) (at_ k : Int) (hl : Sl w 1 (.slice a n c) n (bvs l)) (hsz : n ≤ 70368744177664) :
    Calls Tryd.prog 58 #[.slice a n c, .int .i64 at_, .int .i64 k] w fun e w' => ∃ v, e = .returned (.tuple #[v, .bool (cutIs l at_ k)]) ∧ Own w' w.heap.size 1 v (cutL l at_ k).length (bvs (cutL l at_ k)) ∧ Below w.heap.size w w' := by
  have hn := hl.len
  have HL := Lib.hid hl
  clear hl
  by_cases h2 : (n : Int) < at_
  · have HC : Hid (cutIs l at_ k = false) := by show _ = _; simp [cutIs]; omega
    go_enter Tryd.func58, Tryd.ntmps58
    go_wp2_with fail
    go_ret2
    rw [cutL, HC.out]
    exact ⟨_, rfl, Own.nil _ _ _, Below.refl _ _⟩
  cases hc : cutIs l at_ k with
  | false =>
    go_enter Tryd.func58, Tryd.ntmps58
    go_wp2_with fail
    refine (there_any a n c l w at_ k hn.1 (by omega) (by omega)).mono ?_
    rintro e w2 ⟨rfl, rfl⟩
    rw [hc]
    go_wp2_with fail
    go_ret2
    rw [cutL, hc]
    exact ⟨_, rfl, Own.nil _ _ _, Below.refl _ _⟩
  | true =>
    obtain ⟨p, rfl⟩ : ∃ p : Nat, at_ = p := ⟨at_.toNat, by simp [cutIs] at hc; omega⟩
    obtain ⟨m, rfl⟩ : ∃ m : Nat, k = m := ⟨k.toNat, by simp [cutIs] at hc; omega⟩
    have hpm : p + m ≤ n := by simp [cutIs] at hc; omega
    have hcl : cutL l p m = (l.drop p).take m := by rw [cutL, hc]; rfl
    have hlen : (cutL l p m).length = m := cutL_lenN l p m (by omega)
    rw [hlen, hcl]
    have hget : Hid (∀ j, j < m → (l.drop p).take (j + 1) = (l.drop p).take j ++ [l.getD (p + j) 0]) := by
      show ∀ j, _
      intro j hj
      rw [take_snoc (l.drop p) j (by simp; omega)]
      simp
    clear hcl hlen
    go_enter Tryd.func58, Tryd.ntmps58
    go_wp2_with fail
    refine (there_any a n c l w p m hn.1 (by omega) (by omega)).mono ?_
    rintro e w2 ⟨rfl, rfl⟩
    rw [hc]
    obtain ⟨W0, hW0⟩ : ∃ W0 : World, W0 = w := ⟨_, rfl⟩
    go_wp2_with fail
    go_loopw [8, 9] (fun v8 v9 wr => ∃ i : Nat, i ≤ m ∧ v9 = .int .i64 i ∧ Own wr w.heap.size 1 v8 i (bvs ((l.drop p).take i)) ∧ Below w.heap.size w wr) (fun _ v9 _ => m - (intOf v9).toNat)
    case atStart => exact ⟨0, Nat.zero_le _, rfl, by rw [List.take_zero]; exact Own.nil _ _ _, Below.refl _ _⟩
    case round =>
      obtain ⟨i, hi, rfl, ho, hb⟩ := hrel
      obtain ⟨a8, c8, rfl⟩ := ho.form
      have HO := Lib.hid ho
      have HB := Lib.hid hb
      clear ho hb
      by_cases him : i = m
      · subst him
        go_wp2_with fail
        go_ret2
        exact ⟨_, rfl, HO.out, HB.out⟩
      · have hlt : i < m := by omega
        have hlt' : (i : Int) < m := by omega
        obtain ⟨b, off, rfl, hc1⟩ := (HL.out.below HB.out).byte (show p + i < n by omega)
        obtain ⟨z, hz⟩ : ∃ z, z = l.getD (p + i) 0 := ⟨_, rfl⟩
        have hst : Hid ((l.drop p).take (i + 1) = (l.drop p).take i ++ [z]) := by show _ = _; rw [hz]; exact hget.out i hlt
        rw [← hz] at hc1
        have hjb : p + i < n := by omega
        have hjb2 : (p : Int) + i < n := by omega
        have HO2 := Lib.hid (HO.out.alloc (.cells #[.int .u8 (z.toNat : Int)] 5))
        have HS2 := Lib.hid (Sl.one wr (.int .u8 (z.toNat : Int)) 5)
        have HB2 := Lib.hid (HB.out.alloc HB.out.size (.cells #[.int .u8 (z.toNat : Int)] 5))
        clear hz
        go_wp2_with (at_builtin; refine wpL_append etB rfl _ _ rfl HO2.out rfl HS2.out rfl (by simp [Value.oneCell']) (by omega) (by simp [maxLen]; omega) HB2.out.size ?_; intro v3 w3 hown3 hgr3; have HO3 := Lib.hid hown3; have HB3 := Lib.hid (below_own HB2.out HO2.out hgr3 (Nat.le_refl _) HB2.out.size); clear hown3 hgr3)
        refine ⟨⟨i + 1, by omega, rfl, ?_, HB3.out⟩, by simp [intOf]; omega⟩
        rw [hst.out, bvs_append]
        exact HO3.out

theorem digs_mod (x k : Nat) (hk : saysB k = true) (hp : powN k ≠ 0) : digs (x % powN k) k = digs x k := by
  have e : powN k = 256 ^ k := by
    simp only [saysB, Bool.or_eq_true, beq_iff_eq] at hk
    have : k = 1 ∨ k = 2 ∨ k = 4 ∨ k = 8 := by omega
    rcases this with rfl | rfl | rfl | rfl
    · rfl
    · rfl
    · rfl
    · exact absurd rfl hp
  rw [e, digs, digs]
  refine List.map_congr_left fun i hi => ?_
  have hi := List.mem_range.1 hi
  congr 1
  rw [show 256 ^ k = 256 ^ i * (256 * 256 ^ (k - i - 1)) by rw [← Nat.pow_succ', ← Nat.pow_add]; congr 1; omega]
  rw [Nat.mod_mul_right_div_self, Nat.mod_mul_right_mod]

set_option maxHeartbeats 400000 in
theorem rput_any (a : Option Addr) (n c : Nat) (l : List UInt8) (w : World) (x : Nat) (k : Int) (hl : Sl w 1 (.slice a n c) n (bvs l)) (hsz : n ≤ 70368744177664) (hx : x < 18446744073709551616) :
    Calls Tryd.prog 37 #[.slice a n c, .int .u64 x, .int .i64 k] w fun e w' => ∃ v, e = .returned v ∧ Own w' w.heap.size 1 v (putL l x k).length (bvs (putL l x k)) ∧ Below w.heap.size w w' := by
  have hn := hl.len
  have HL := Lib.hid hl
  clear hl
  cases hk : saysB k with
  | false =>
    have HP : Hid (putL l x k = l) := by show putL l x k = l; simp [putL, hk]
    go_enter Tryd.func37, Tryd.ntmps37
    go_wp2_with (at_builtin; refine wpL_append0 etB rfl _ _ rfl w.heap.size rfl HL.out rfl (bvs_one _) (by omega) (by simp [maxLen]; omega) (Nat.le_refl _) ?_; intro v2 w2 hown2 hb2; obtain ⟨a2, c2, rfl⟩ := hown2.form; have HO := Lib.hid hown2; have HB := Lib.hid hb2; clear hown2 hb2)
    refine (power_any k _).mono ?_
    rintro e w3 ⟨rfl, rfl⟩
    rw [hk]
    go_wp2_with fail
    go_ret
    rw [HP.out, hn.1]
    exact ⟨_, rfl, HO.out, HB.out⟩
  | true =>
    obtain ⟨m, rfl, hm8, hm0⟩ := saysB_nat hk
    have HP : Hid (putL l x m = l ++ digs x m) := by show putL l x m = _; rw [putL, if_pos hk]; rfl
    obtain ⟨q, hq⟩ : ∃ q : Nat, q = powN m := ⟨_, rfl⟩
    obtain ⟨y, hy⟩ : ∃ y : Nat, y = if 0 < q then x % q else x := ⟨_, rfl⟩
    have HD : Hid (digs x m = digs y m) := by
      show _ = _
      rw [hy]; split
      · rename_i h; rw [hq]; exact (digs_mod x m hk (by omega)).symm
      · rfl
    have hy2 : y < 18446744073709551616 := by
      rw [hy]; split
      · exact Nat.lt_of_le_of_lt (Nat.mod_le _ _) hx
      · exact hx
    have hq2 : q < 18446744073709551616 := by
      rw [hq, powN]; split
      · omega
      · split
        · omega
        · split <;> omega
    have HQ := Lib.hid hq
    clear hq
    rw [HP.out, List.length_append, digs_length, hn.1, HD.out]
    clear HP HD
    have hrem : 0 < q → (x : Int) % (q : Int) = (y : Int) := by
      intro h; rw [hy, if_pos h]; rfl
    have hnrem : ¬ 0 < q → x = y := by
      intro h; rw [hy, if_neg h]
    clear hy
    go_enter Tryd.func37, Tryd.ntmps37
    go_wp2_with (at_builtin; refine wpL_append0 etB rfl _ _ rfl w.heap.size rfl HL.out rfl (bvs_one _) (by omega) (by simp [maxLen]; omega) (Nat.le_refl _) ?_; intro v2 w2 hown2 hb2; obtain ⟨a2, c2, rfl⟩ := hown2.form; have HO := Lib.hid hown2; have HB := Lib.hid hb2; clear hown2 hb2)
    refine (power_any m _).mono ?_
    rintro e w3 ⟨rfl, rfl⟩
    rw [hk, ← HQ.out]
    rcases Nat.eq_zero_or_pos q with rfl | hqp
    · obtain rfl := hnrem (by omega)
      clear hrem hnrem
      go_wp2_with fail
      go_loopw [1, 7, 10] (fun v1 v7 v10 wr => ∃ i : Nat, i ≤ m ∧ v10 = .int .i64 i ∧ v1 = .int .u64 ((x / 256 ^ i : Nat) : Int) ∧ Own wr w.heap.size 1 v7 (n + i) (bvs (l ++ digs x i)) ∧ Below w.heap.size w wr) (fun _ _ v10 _ => m - (intOf v10).toNat)
      case atStart => exact ⟨0, Nat.zero_le _, rfl, by simp, by rw [show digs x 0 = [] from rfl, List.append_nil]; exact HO.out, HB.out⟩
      case round =>
        obtain ⟨i, hi, rfl, rfl, ho, hb⟩ := hrel
        obtain ⟨a7, c7, rfl⟩ := ho.form
        have HOr := Lib.hid ho
        have HBr := Lib.hid hb
        clear ho hb
        obtain ⟨t, ht⟩ : ∃ t : Nat, t = x / 256 ^ i := ⟨_, rfl⟩
        have ht2 : t < 18446744073709551616 := by rw [ht]; exact Nat.lt_of_le_of_lt (Nat.div_le_self _ _) hy2
        rw [← ht]
        by_cases him : i = m
        · subst him
          go_wp2_with fail
          go_ret
          exact ⟨_, rfl, HOr.out, HBr.out⟩
        · have hlt : i < m := by omega
          have hlt' : (i : Int) < m := by omega
          obtain ⟨z, hz⟩ : ∃ z : Nat, z = t % 256 := ⟨_, rfl⟩
          have hz2 : z < 256 := by omega
          have hz3 : (t : Int) % 256 = (z : Int) := by omega
          have hst : Hid (digs x (i + 1) = digs x i ++ [UInt8.ofNat z]) := by show _ = _; rw [digs_succ, hz, ht]
          have hnx : Hid (t / 256 = x / 256 ^ (i + 1)) := by show _ = _; rw [ht, Nat.div_div_eq_div_mul, Nat.pow_succ]
          have hzb : Hid ([Value.int .u8 (z : Int)] = bvs [UInt8.ofNat z]) := by
            show _ = _; simp [bvs, UInt8.toNat_ofNat', Nat.mod_eq_of_lt hz2]
          have HO2 := Lib.hid (HOr.out.alloc (.cells #[.int .u8 (z : Int)] 5))
          have HS2 := Lib.hid (Sl.one wr (.int .u8 (z : Int)) 5)
          have HB2 := Lib.hid (HBr.out.alloc HBr.out.size (.cells #[.int .u8 (z : Int)] 5))
          clear hz ht
          go_wp2_with (at_builtin; refine wpL_append etB rfl _ _ rfl HO2.out rfl HS2.out rfl (by simp [Value.oneCell']) (by omega) (by simp [maxLen]; omega) HB2.out.size ?_; intro v3 w3 hown3 hgr3; have HO3 := Lib.hid hown3; have HB3 := Lib.hid (below_own HB2.out HO2.out hgr3 (Nat.le_refl _) HB2.out.size); clear hown3 hgr3)
          have e2 : (t : Int) / 256 = ((x / 256 ^ (i + 1) : Nat) : Int) := by rw [← hnx.out]; rfl
          go_roundw
          case rel => exact ⟨i + 1, by omega, by go_num, by rw [e2], (by rw [hst.out, ← List.append_assoc, bvs_append _ [_], ← hzb.out]; exact HO3.out), HB3.out⟩
          case measure => simp [intOf]; omega
    · have hr := hrem hqp
      have hqp' : (0 : Int) < q := by omega
      have hq3 : (q : Int) ≠ 0 := by omega
      have HR := Lib.hid hr
      clear hrem hnrem hr
      go_wp2_with fail
      go_loopw [1, 7, 10] (fun v1 v7 v10 wr => ∃ i : Nat, i ≤ m ∧ v10 = .int .i64 i ∧ v1 = .int .u64 ((y / 256 ^ i : Nat) : Int) ∧ Own wr w.heap.size 1 v7 (n + i) (bvs (l ++ digs y i)) ∧ Below w.heap.size w wr) (fun _ _ v10 _ => m - (intOf v10).toNat)
      case atStart => exact ⟨0, Nat.zero_le _, rfl, by rw [HR.out]; simp, by rw [show digs y 0 = [] from rfl, List.append_nil]; exact HO.out, HB.out⟩
      case round =>
        obtain ⟨i, hi, rfl, rfl, ho, hb⟩ := hrel
        obtain ⟨a7, c7, rfl⟩ := ho.form
        have HOr := Lib.hid ho
        have HBr := Lib.hid hb
        clear ho hb
        obtain ⟨t, ht⟩ : ∃ t : Nat, t = y / 256 ^ i := ⟨_, rfl⟩
        have ht2 : t < 18446744073709551616 := by rw [ht]; exact Nat.lt_of_le_of_lt (Nat.div_le_self _ _) hy2
        rw [← ht]
        by_cases him : i = m
        · subst him
          go_wp2_with fail
          go_ret
          exact ⟨_, rfl, HOr.out, HBr.out⟩
        · have hlt : i < m := by omega
          have hlt' : (i : Int) < m := by omega
          obtain ⟨z, hz⟩ : ∃ z : Nat, z = t % 256 := ⟨_, rfl⟩
          have hz2 : z < 256 := by omega
          have hz3 : (t : Int) % 256 = (z : Int) := by omega
          have hst : Hid (digs y (i + 1) = digs y i ++ [UInt8.ofNat z]) := by show _ = _; rw [digs_succ, hz, ht]
          have hnx : Hid (t / 256 = y / 256 ^ (i + 1)) := by show _ = _; rw [ht, Nat.div_div_eq_div_mul, Nat.pow_succ]
          have hzb : Hid ([Value.int .u8 (z : Int)] = bvs [UInt8.ofNat z]) := by
            show _ = _; simp [bvs, UInt8.toNat_ofNat', Nat.mod_eq_of_lt hz2]
          have HO2 := Lib.hid (HOr.out.alloc (.cells #[.int .u8 (z : Int)] 5))
          have HS2 := Lib.hid (Sl.one wr (.int .u8 (z : Int)) 5)
          have HB2 := Lib.hid (HBr.out.alloc HBr.out.size (.cells #[.int .u8 (z : Int)] 5))
          clear hz ht
          go_wp2_with (at_builtin; refine wpL_append etB rfl _ _ rfl HO2.out rfl HS2.out rfl (by simp [Value.oneCell']) (by omega) (by simp [maxLen]; omega) HB2.out.size ?_; intro v3 w3 hown3 hgr3; have HO3 := Lib.hid hown3; have HB3 := Lib.hid (below_own HB2.out HO2.out hgr3 (Nat.le_refl _) HB2.out.size); clear hown3 hgr3)
          have e2 : (t : Int) / 256 = ((y / 256 ^ (i + 1) : Nat) : Int) := by rw [← hnx.out]; rfl
          go_roundw
          case rel => exact ⟨i + 1, by omega, by go_num, by rw [e2], (by rw [hst.out, ← List.append_assoc, bvs_append _ [_], ← hzb.out]; exact HO3.out), HB3.out⟩
          case measure => simp [intOf]; omega

end Go.Proofs.YtoddklfblcfoiaaDoor
