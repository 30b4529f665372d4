/-
  OctetBlank, walked.
-/
import Derived.Test.YtnbabdeklceklaaOctL1
namespace Go.Proofs.Ytnbabdeklceklaa
open Go.RowKit
set_option linter.unusedVariables false

theorem fillIs_nat (l : List UInt8) (k : Nat) (hk : k ≤ 1048576) : fillIs l k = decide (l.length ≤ k) := by
  have h : ((k : Int) ≤ 1048576) = True := eq_true (by omega)
  simp only [fillIs, h, decide_true, Bool.true_and]
  simp
theorem fillL_yes (l : List UInt8) (k : Nat) (hk : k ≤ 1048576) (h : l.length ≤ k) : fillL l k = l ++ List.replicate (k - l.length) 0 := by
  rw [fillL, fillIs_nat l k hk, if_pos (by simpa using h)]; rfl
theorem fillL_len (l : List UInt8) (k : Nat) (hk : k ≤ 1048576) (h : l.length ≤ k) : (fillL l k).length = k := by rw [fillL_yes l k hk h]; simp; omega
theorem fillL_no (l : List UInt8) (k : Nat) (hk : k ≤ 1048576) (h : k < l.length) : fillL l k = [] := by
  rw [fillL, fillIs_nat l k hk, if_neg (by simpa using h)]
theorem fillL_twice (l : List UInt8) (k m : Nat) (hm : m ≤ 1048576) (h : l.length ≤ k) (hkm : k ≤ m) : fillL (fillL l k) m = fillL l m := by
  rw [fillL_yes _ m hm (by rw [fillL_len l k (by omega) h]; exact hkm), fillL_len l k (by omega) h, fillL_yes l k (by omega) h, fillL_yes l m hm (by omega), List.append_assoc, List.replicate_append_replicate]
  rw [show k - l.length + (m - k) = m - l.length by omega]
theorem leN_zeros : ∀ k, leN (List.replicate k 0) = 0
  | 0 => rfl
  | k + 1 => by rw [List.replicate_succ, leN, leN_zeros k]; rfl
theorem getIs_nat (l : List UInt8) (p : Nat) : getIs l p 4 = decide (p + 4 ≤ l.length) := by
  have e : cutIs l p 4 = decide (p + 4 ≤ l.length) := by
    by_cases h : p + 4 ≤ l.length
    · rw [show (4 : Int) = ((4 : Nat) : Int) from rfl, cutIs_yes l p 4 h]; simp [h]
    · simp only [h, decide_false]; simp [cutIs]; omega
  rw [getIs, e]; simp [saysB]
theorem blank_get (l : List UInt8) (k t : Nat) (hk : k ≤ 1048576) (h : l.length ≤ k) : getN (fillL l k) ((l.length + t : Nat) : Int) 4 = 0 := by
  rw [getN, getIs_nat]
  split
  · rename_i hd
    simp only [decide_eq_true_eq, fillL_len l k hk h] at hd
    rw [show (4 : Int) = ((4 : Nat) : Int) from rfl, cutL_yes _ _ _ (by rw [fillL_len l k hk h]; omega), fillL_yes l k hk h, List.drop_append]
    rw [List.drop_eq_nil_of_le (by omega), List.nil_append, List.drop_replicate, List.take_replicate]
    exact leN_zeros _
  · rfl

set_option maxRecDepth 100000 in
set_option maxHeartbeats 1000000 in
theorem blank_walk (a : Option Addr) (n c : Nat) (l : List UInt8) (N M A : Nat) (hN : N < 65536) (hM : M < 65536) (hA : A < 65536) (w : World) (hl : Sl w 1 (.slice a n c) n (bvs l)) :
    Calls Try.prog 6 #[.slice a n c, .int .u16 N, .int .u16 M, .int .u16 A] w fun e w' => e = .returned (.bool true) ∧ Below w.heap.size w w' := by
  have hn := hl.len
  have HL := Lib.hid hl
  clear hl
  by_cases h1 : 16384 < n
  · have h1' : (16384 : Int) < n := by omega
    go_enter Try.func6, Try.ntmps6
    go_wp2_with fail
    refine (works_any w).mono ?_
    rintro e w1 ⟨rfl, hb⟩
    go_wp2_with fail
    go_ret
    exact ⟨rfl, hb⟩
  have h1' : ¬ (16384 : Int) < n := by omega
  by_cases h2 : N < n
  · have k1 : fillIs l N = false := by rw [fillIs_nat l N (by omega)]; simp; omega
    have k2 : fillL l N = [] := fillL_no l N (by omega) (by omega)
    have h2' : ¬ (n : Int) ≤ N := by omega
    have h2'' : (N : Int) < n := by omega
    go_enter Try.func6, Try.ntmps6
    go_wp2_with fail
    refine (fill_any a n c l w N HL.out).mono ?_
    rintro e w1 ⟨v1, rfl, ho1, hb1⟩
    rw [k2] at ho1
    rw [k1]
    obtain ⟨a1, c1, rfl⟩ := ho1.form
    have HB1 := Lib.hid hb1
    clear ho1 hb1
    go_wp2_with fail
    refine (works_any w1).mono ?_
    rintro e w2 ⟨rfl, hb2⟩
    go_wp2_with fail
    go_ret
    exact ⟨rfl, HB1.out.trans (hb2.mono HB1.out.size)⟩
  have k1 : fillIs l N = true := by rw [fillIs_nat l N (by omega)]; simp; omega
  have k2 : (fillL l N).length = N := fillL_len l N (by omega) (by omega)
  have h2' : (n : Int) ≤ N := by omega
  have h2'' : ¬ (N : Int) < n := by omega
  obtain ⟨o, ho⟩ : ∃ o, o = fillL l N := ⟨_, rfl⟩
  have k7 : Hid (getN o ((n : Int) + (A : Int)) 4 = 0) := by
    show _ = _
    have := blank_get l N A (by omega) (by omega)
    rw [ho, ← this, hn.1]; rfl
  obtain ⟨g, hg⟩ : ∃ g, g = getE o ((n : Int) + (A : Int)) 4 := ⟨_, rfl⟩
  have k8 : g = if n + A + 4 ≤ N then 0 else 1 := by
    rw [hg, ho, getE]
    have := getIs_nat (fillL l N) (n + A)
    rw [Int.natCast_add] at this
    rw [this, k2]
    simp
  rw [← ho] at k2
  have HG := Lib.hid hg
  have hgt : Hid ((g = 0 ∧ (n : Int) + A + 4 ≤ N) ∨ (g = 1 ∧ ¬ (n : Int) + A + 4 ≤ N)) := by
    show _ ∨ _
    rw [k8]; split
    · exact .inl ⟨rfl, by omega⟩
    · exact .inr ⟨rfl, by omega⟩
  have HO := Lib.hid ho
  clear hg k8 ho
  rcases Nat.lt_trichotomy N M with hNM | rfl | hNM
  · have HF : Hid (fillIs o M = true) := by show _ = _; rw [fillIs_nat o M (by omega)]; simp; omega
    have HX : Hid (fillIs l M = true) := by show _ = _; rw [fillIs_nat l M (by omega)]; simp; omega
    have HE : Hid (fillL l M = fillL o M) := by show _ = _; rw [HO.out, fillL_twice l N M (by omega) (by omega) (by omega)]
    have hm1 : (N : Int) < M := by omega
    have hm2 : (N : Int) ≤ M := by omega
    go_enter Try.func6, Try.ntmps6
    go_wp2_with fail
    refine (fill_any a n c l w N HL.out).mono ?_
    rintro e w1 ⟨v1, rfl, ho1, hb1⟩
    rw [← HO.out, k2] at ho1
    rw [k1]
    obtain ⟨a1, c1, rfl⟩ := ho1.form
    have HO1 := Lib.hid ho1
    have HB1 := Lib.hid hb1
    clear ho1 hb1
    go_wp2_with fail
    refine (fill_any a1 N c1 o w1 M HO1.out.sl).mono ?_
    rintro e w2 ⟨v2, rfl, ho2, hb2⟩
    rw [HF.out]
    obtain ⟨a2, c2, rfl⟩ := ho2.form
    have HO2 := Lib.hid ho2
    have HO1b := Lib.hid (HO1.out.below hb2)
    have HB2 := Lib.hid (HB1.out.trans (hb2.mono HB1.out.size))
    clear ho2 hb2
    go_wp2_with fail
    refine (fill_any a n c l w2 M (HL.out.below HB2.out)).mono ?_
    rintro e w3 ⟨v3, rfl, ho3, hb3⟩
    rw [HX.out]
    obtain ⟨a3, c3, rfl⟩ := ho3.form
    have HO3 := Lib.hid ho3
    have HO2b := Lib.hid (HO2.out.below hb3)
    have HO1c := Lib.hid (HO1b.out.below hb3)
    have HB3 := Lib.hid (HB2.out.trans (hb3.mono HB2.out.size))
    clear ho3 hb3
    go_wp2_with (refine wpList_unguard rfl ?_; first | refine wpL_toString rfl 22 9 (.tmp 72) rfl Try.underlying22 Try.underlying5 Try.underlying9 HO2b.out.sl rfl ?_ | refine wpL_toString rfl 22 9 (.tmp 74) rfl Try.underlying22 Try.underlying5 Try.underlying9 HO3.out.sl rfl ?_; rw [HE.out])
    refine (get_any a1 N c1 o w3 _ _ HO1c.out.sl (by omega)).mono ?_
    rintro e w4 ⟨rfl, hb4⟩
    rw [k7.out, ← HG.out]
    have HB4 := Lib.hid (HB3.out.trans (hb4.mono HB3.out.size))
    clear hb4
    rcases hgt.out with ⟨hg, ht⟩ | ⟨hg, ht⟩
    all_goals
      rw [hg]
      clear HG hgt
      go_wp2_with fail
      refine (works_any w4).mono ?_
      rintro e w5 ⟨rfl, hb5⟩
      go_wp2_with fail
      go_ret
      exact ⟨by first | rfl | (simp; omega), HB4.out.trans (hb5.mono HB4.out.size)⟩
  · have HF : Hid (fillIs o N = true) := by show _ = _; rw [fillIs_nat o N (by omega)]; simp; omega
    have HX : Hid (fillIs l N = true) := k1
    have HE : Hid (fillL l N = fillL o N) := by show _ = _; rw [HO.out, fillL_twice l N N (by omega) (by omega) (by omega)]
    go_enter Try.func6, Try.ntmps6
    go_wp2_with fail
    refine (fill_any a n c l w N HL.out).mono ?_
    rintro e w1 ⟨v1, rfl, ho1, hb1⟩
    rw [← HO.out, k2] at ho1
    rw [k1]
    obtain ⟨a1, c1, rfl⟩ := ho1.form
    have HO1 := Lib.hid ho1
    have HB1 := Lib.hid hb1
    clear ho1 hb1
    go_wp2_with fail
    refine (fill_any a1 N c1 o w1 N HO1.out.sl).mono ?_
    rintro e w2 ⟨v2, rfl, ho2, hb2⟩
    rw [HF.out]
    obtain ⟨a2, c2, rfl⟩ := ho2.form
    have HO2 := Lib.hid ho2
    have HO1b := Lib.hid (HO1.out.below hb2)
    have HB2 := Lib.hid (HB1.out.trans (hb2.mono HB1.out.size))
    clear ho2 hb2
    go_wp2_with fail
    refine (fill_any a n c l w2 N (HL.out.below HB2.out)).mono ?_
    rintro e w3 ⟨v3, rfl, ho3, hb3⟩
    rw [HX.out]
    obtain ⟨a3, c3, rfl⟩ := ho3.form
    have HO3 := Lib.hid ho3
    have HO2b := Lib.hid (HO2.out.below hb3)
    have HO1c := Lib.hid (HO1b.out.below hb3)
    have HB3 := Lib.hid (HB2.out.trans (hb3.mono HB2.out.size))
    clear ho3 hb3
    go_wp2_with (refine wpList_unguard rfl ?_; first | refine wpL_toString rfl 22 9 (.tmp 72) rfl Try.underlying22 Try.underlying5 Try.underlying9 HO2b.out.sl rfl ?_ | refine wpL_toString rfl 22 9 (.tmp 74) rfl Try.underlying22 Try.underlying5 Try.underlying9 HO3.out.sl rfl ?_; rw [HE.out])
    refine (get_any a1 N c1 o w3 _ _ HO1c.out.sl (by omega)).mono ?_
    rintro e w4 ⟨rfl, hb4⟩
    rw [k7.out, ← HG.out]
    have HB4 := Lib.hid (HB3.out.trans (hb4.mono HB3.out.size))
    clear hb4
    rcases hgt.out with ⟨hg, ht⟩ | ⟨hg, ht⟩
    all_goals
      rw [hg]
      clear HG hgt
      go_wp2_with fail
      refine (works_any w4).mono ?_
      rintro e w5 ⟨rfl, hb5⟩
      go_wp2_with fail
      go_ret
      exact ⟨by first | rfl | (simp; omega), HB4.out.trans (hb5.mono HB4.out.size)⟩
  · have HF : Hid (fillIs o M = false) := by show _ = _; rw [fillIs_nat o M (by omega)]; simp; omega
    have HX : Hid (fillIs l N = true) := k1
    have hm1 : ¬ (N : Int) < M := by omega
    have hm2 : ¬ (N : Int) ≤ M := by omega
    go_enter Try.func6, Try.ntmps6
    go_wp2_with fail
    refine (fill_any a n c l w N HL.out).mono ?_
    rintro e w1 ⟨v1, rfl, ho1, hb1⟩
    rw [← HO.out, k2] at ho1
    rw [k1]
    obtain ⟨a1, c1, rfl⟩ := ho1.form
    have HO1 := Lib.hid ho1
    have HB1 := Lib.hid hb1
    clear ho1 hb1
    go_wp2_with fail
    refine (fill_any a1 N c1 o w1 M HO1.out.sl).mono ?_
    rintro e w2 ⟨v2, rfl, ho2, hb2⟩
    rw [HF.out]
    obtain ⟨a2, c2, rfl⟩ := ho2.form
    have HO2 := Lib.hid ho2
    have HO1b := Lib.hid (HO1.out.below hb2)
    have HB2 := Lib.hid (HB1.out.trans (hb2.mono HB1.out.size))
    clear ho2 hb2
    go_wp2_with fail
    refine (fill_any a n c l w2 N (HL.out.below HB2.out)).mono ?_
    rintro e w3 ⟨v3, rfl, ho3, hb3⟩
    rw [HX.out]
    obtain ⟨a3, c3, rfl⟩ := ho3.form
    have HO3 := Lib.hid ho3
    have HO2b := Lib.hid (HO2.out.below hb3)
    have HO1c := Lib.hid (HO1b.out.below hb3)
    have HB3 := Lib.hid (HB2.out.trans (hb3.mono HB2.out.size))
    clear ho3 hb3
    go_wp2_with fail
    refine (get_any a1 N c1 o w3 _ _ HO1c.out.sl (by omega)).mono ?_
    rintro e w4 ⟨rfl, hb4⟩
    rw [k7.out, ← HG.out]
    have HB4 := Lib.hid (HB3.out.trans (hb4.mono HB3.out.size))
    clear hb4
    rcases hgt.out with ⟨hg, ht⟩ | ⟨hg, ht⟩
    all_goals
      rw [hg]
      clear HG hgt
      go_wp2_with fail
      refine (works_any w4).mono ?_
      rintro e w5 ⟨rfl, hb5⟩
      go_wp2_with fail
      go_ret
      exact ⟨by first | rfl | (simp; omega), HB4.out.trans (hb5.mono HB4.out.size)⟩
end Go.Proofs.Ytnbabdeklceklaa
