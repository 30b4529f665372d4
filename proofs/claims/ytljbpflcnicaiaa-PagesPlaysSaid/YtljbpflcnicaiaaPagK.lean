/-
  What the statements about pages share: works, vast, does, meant; walked.
-/
import Derived.Test.YtljbpflcnicaiaaPagJ
import Derived.Test.YtljbpflcnicaiaaSame
import Derived.Test.YtljbpflcnicaiaaGen
namespace Go.Proofs.Ytljbpflcnicaiaa
open Go.RowKit
set_option linter.unusedVariables false
set_option linter.unusedSimpArgs false

/-! ### the contracts, what they answer behind names -/
theorem part_h (b : Nat) (S : List Nat) (i : Int) (w : World) (h : PM w b S) :
    Calls Try.prog 20 #[.pointer (some ⟨b, 0, none⟩), .int .i64 i] w fun e w' => ∃ (v : Value) (Q : List UInt8) (N : Nat), e = .returned v ∧ Hid (Q = partB S i ∧ N = Q.length) ∧ Own w' w.heap.size 1 v N (bvs Q) ∧ Below w.heap.size w w' :=
  (part_p b S i w h _ (Lib.hid rfl)).mono fun e w' ⟨v, he, ho, hb⟩ => ⟨v, _, _, he, Lib.hid ⟨rfl, rfl⟩, ho, hb⟩
theorem turned_h (b1 b2 : Nat) (S T : List Nat) (w : World) (h1 : PM w b1 S) (h2 : PM w b2 T) :
    Calls Try.prog 18 #[.pointer (some ⟨b1, 0, none⟩), .pointer (some ⟨b2, 0, none⟩)] w fun e w' => ∃ (v : Value) (L : List Int) (N : Nat), e = .returned v ∧ Hid (L = turnedL S T ∧ N = L.length) ∧ Own w' w.heap.size 1 v N (ints L) ∧ Below w.heap.size w w' :=
  (turned_p b1 b2 S T w h1 h2 _ (Lib.hid rfl) _ (Lib.hid rfl)).mono fun e w' ⟨v, he, ho, hb⟩ => ⟨v, _, _, he, Lib.hid ⟨rfl, rfl⟩, ho, hb⟩
theorem lay_h (b : Nat) (S : List Nat) (i : Int) (a : Option Addr) (n c : Nat) (l : List UInt8) (w : World) (h : PM w b S) (hl : Sl w 1 (.slice a n c) n (bvs l)) (hne : 0 < n → ∀ g, (Value.slice a n c).ownBlock = some g → ¬ g = b) (hsz : n ≤ 1048576) :
    Calls Try.prog 19 #[.pointer (some ⟨b, 0, none⟩), .int .i64 i, .slice a n c] w fun e w' => ∃ (B : Bool) (T : List Nat), e = .returned (.bool B) ∧ Hid (B = layIs i l ∧ T = layS S i l) ∧ PM w' b T ∧ Mods (fun g => g = b) w w' :=
  (lay_p b S i a n c l w h hl hne hsz _ (Lib.hid rfl) _ (Lib.hid rfl)).mono fun e w' ⟨he, h1, h2⟩ => ⟨_, _, he, Lib.hid ⟨rfl, rfl⟩, h1, h2⟩

/-! ### works -/
def wS : List Nat := setS (setS (setS (List.replicate 1024 0) 0 5) 2 256) 130 7
theorem w_set1 : setIs 0 5 = true ∧ setIs 2 256 = true ∧ setIs 130 7 = true := by decide
theorem w_part0 : partB wS 0 = [5, 0, 0, 0, 0, 1] := by decide +kernel
theorem w_part1 : (partB wS 1).length = 14 := by decide +kernel
theorem w_turned : (turnedL wS (List.replicate 1024 0)).length = 2 := by decide +kernel
theorem w_lay : layIs 0 [5] = false := by decide
set_option maxRecDepth 100000 in
set_option maxHeartbeats 1600000 in
theorem works_any (w : World) : Calls Try.prog 10 #[] w fun e w' => e = .returned (.bool true) ∧ Below w.heap.size w w' := by
  go_enter Try.func10, Try.ntmps10
  go_wp2_with fail
  refine (new_h w).mono ?_
  rintro e w1 ⟨rfl, hm1, hb1⟩
  obtain ⟨b, hb⟩ : ∃ b, b = w.heap.size := ⟨_, rfl⟩
  rw [← hb] at hm1 ⊢
  have HB := Lib.hid hb
  clear hb
  obtain ⟨S1, hS1⟩ : ∃ S, S = setS (List.replicate 1024 0) 0 5 := ⟨_, rfl⟩
  obtain ⟨S2, hS2⟩ : ∃ S, S = setS S1 2 256 := ⟨_, rfl⟩
  obtain ⟨S3, hS3⟩ : ∃ S, S = setS S2 130 7 := ⟨_, rfl⟩
  have HS : Hid (S3 = wS) := by show _ = _; rw [hS3, hS2, hS1, wS]
  have H1 := Lib.hid hS1
  have H2 := Lib.hid hS2
  have H3 := Lib.hid hS3
  clear hS1 hS2 hS3
  go_wp2_with fail
  refine (set_p b _ 0 5 w1 hm1 true (Lib.hid w_set1.1.symm) S1 H1).mono ?_
  rintro e w2 ⟨rfl, hm2, hg2⟩
  go_wp2_with fail
  refine (set_p b S1 2 256 w2 hm2 true (Lib.hid w_set1.2.1.symm) S2 H2).mono ?_
  rintro e w3 ⟨rfl, hm3, hg3⟩
  go_wp2_with fail
  refine (set_p b S2 130 7 w3 hm3 true (Lib.hid w_set1.2.2.symm) S3 H3).mono ?_
  rintro e w4 ⟨rfl, hm4, hg4⟩
  have hB4 := below_mods hb1 ((hg2.trans hg3).trans hg4) (fun g e => by rw [e, HB.out]; exact Nat.le_refl _) hb1.size
  rw [HS.out] at hm4
  go_wp2_with fail
  refine (part_p b wS 0 w4 hm4 [5, 0, 0, 0, 0, 1] (Lib.hid w_part0.symm)).mono ?_
  rintro e w5 ⟨v5, rfl, ho5, hb5⟩
  replace ho5 : Own w5 w4.heap.size 1 v5 6 (bvs [5, 0, 0, 0, 0, 1]) := ho5
  obtain ⟨a5, c5, rfl⟩ := ho5.form
  have hm5 := hm4.below hb5
  have hB5 := hB4.trans (hb5.mono hB4.size)
  have hst : ((str [5, 0, 0, 0, 0, 1]).toList == [5, 0, 0, 0, 0, 1]) = true := by rw [ByteArray.toList_eq]; rfl
  have k5 := run_conv_string w5 Try.underlying28 Try.underlying5 Try.underlying9 ho5.sl
  go_wp2_with fail
  refine (part_h b wS 1 w5 hm5).mono ?_
  rintro e w6 ⟨v6, Q6, N6, rfl, H6, ho6, hb6⟩
  obtain rfl : N6 = 14 := by rw [H6.out.2, H6.out.1]; exact w_part1
  obtain ⟨a6, c6, rfl⟩ := ho6.form
  have hm6 := hm5.below hb6
  have hB6 := hB5.trans (hb6.mono hB5.size)
  clear k5 hst
  go_wp2_with fail
  refine (new_h w6).mono ?_
  rintro e w7 ⟨rfl, hn7, hb7⟩
  have hm7 := hm6.below hb7
  have hB7 := hB6.trans (hb7.mono hB6.size)
  obtain ⟨d, hd⟩ : ∃ d, d = w6.heap.size := ⟨_, rfl⟩
  rw [← hd] at hn7 ⊢
  clear hd
  go_wp2_with fail
  refine (turned_h b d wS _ w7 hm7 hn7).mono ?_
  rintro e w8 ⟨v8, L8, N8, rfl, H8, ho8, hb8⟩
  obtain rfl : N8 = 2 := by rw [H8.out.2, H8.out.1]; exact w_turned
  obtain ⟨a8, c8, rfl⟩ := ho8.form
  have hm8 := hm7.below hb8
  have hB8 := hB7.trans (hb8.mono hB7.size)
  have hs9 := Sl.one w8 (.int .u8 5) 5
  have hb9 := (Below.refl w8.heap.size w8).alloc (Nat.le_refl _) (.cells #[.int .u8 5] 5)
  have hm9 := hm8.below hb9
  have hB9 := hB8.trans (hb9.mono hB8.size)
  have hbl : b < w8.heap.size := hm8.lt
  go_wp2_with fail
  refine (lay_p b wS 0 _ 1 1 [5] _ hm9 hs9 (fun _ g hg => by simp [Value.ownBlock] at hg; omega) (by omega) false (Lib.hid w_lay.symm) _ (Lib.hid rfl)).mono ?_
  rintro e w10 ⟨rfl, hm10, hg10⟩
  go_wp2_with fail
  go_ret
  exact ⟨rfl, below_mods hB9 hg10 (fun g e => by rw [e, HB.out]; exact Nat.le_refl _) hB9.size⟩

/-! ### what is done -/
def VOp : World → List Value → Int × Int × Int × List UInt8 → Prop := VRec4 1 1 1 1 (VInt .i64) (VInt .i64) (VInt .i64) (VSl VByte 1)
theorem opensOp : Opens Try.prog 30 4 VOp := opens_rec4 Try.underlying30 (by kernel_rfl) rfl rfl rfl rfl rfl rfl rfl rfl (opens_int Try.underlying3 (by kernel_rfl)) (opens_int Try.underlying3 (by kernel_rfl)) (opens_int Try.underlying3 (by kernel_rfl)) (opens_sl (opens_byte Try.underlying5 (by kernel_rfl)) (by decide) Try.underlying28 (by kernel_rfl))
theorem stabOp : Stab VOp := stab_rec4 (stab_int _) (stab_int _) (stab_int _) (stab_sl stab_byte)
theorem wf_i64 {z : Int} (h : (Lit.int .i64 z).wf = true) : -9223372036854775808 ≤ z ∧ z ≤ 9223372036854775807 := by
  have e9 : IntKind.i64.min = -9223372036854775808 := by decide
  simp [Lit.wf, e9] at h
  omega
/-- a thing to do, as it lies in memory: kind, page, sector, bytes -/
structure OpIs (w : World) (K p q : Int) (av : Option Addr) (n cv : Nat) (l : List UInt8) : Prop where
  sl : Sl w 1 (.slice av n cv) n (bvs l)
  K1 : -9223372036854775808 ≤ K ∧ K ≤ 9223372036854775807
  p1 : -9223372036854775808 ≤ p ∧ p ≤ 9223372036854775807
  q1 : -9223372036854775808 ≤ q ∧ q ≤ 9223372036854775807
theorem op_rec {w : World} {cs : List Value} {K p q : Int} {l : List UInt8} (h : VOp w cs (K, p, q, l)) : ∃ av cv, cs = [.int .i64 K, .int .i64 p, .int .i64 q, .slice av l.length cv] ∧ OpIs w K p q av l.length cv l := by
  obtain ⟨c0, c1, c2, c3, hcs, l0, l1, l2, l3, ⟨rfl, w0⟩, ⟨rfl, w1⟩, ⟨rfl, w2⟩, ⟨v, rfl, hv⟩⟩ := h
  obtain ⟨av, cv, rfl, _⟩ := hv.form
  exact ⟨av, cv, hcs, hv.bytes, wf_i64 w0, wf_i64 w1, wf_i64 w2⟩
theorem op_at {w : World} {a : Option Addr} {m c : Nat} {l : List (Int × Int × Int × List UInt8)} (h : SlOf VOp 4 w (.slice a m c) l) (i : Nat) (hi : i < m) :
    ∃ b off av cv, ∃ n : Nat, ∃ K p q r, a = some ⟨b, off, none⟩ ∧ l[i]? = some (K, p, q, r) ∧ r.length = n ∧ OpIs w K p q av n cv r ∧ w.cell? ⟨b, off + i * 4, none⟩ = some (.int .i64 K) ∧ w.cell? ⟨b, off + i * 4 + 1, none⟩ = some (.int .i64 p) ∧ w.cell? ⟨b, off + i * 4 + 2, none⟩ = some (.int .i64 q) ∧ w.cell? ⟨b, off + i * 4 + 3, none⟩ = some (.slice av n cv) := by
  have hm := h.len.1
  have hi2 : i < l.length := by omega
  obtain ⟨b, off, cs, ha, hl, hV, hc⟩ := h.at i hi2
  have hr : ∃ K p q r, l[i] = (K, p, q, r) := ⟨_, _, _, _, rfl⟩
  obtain ⟨K, p, q, r, e⟩ := hr
  rw [e] at hV
  obtain ⟨av, cv, rfl, ho⟩ := op_rec hV
  exact ⟨b, off, av, cv, _, K, p, q, r, ha, by rw [List.getElem?_eq_getElem hi2, e], rfl, ho, by simpa using hc 0 (by decide), by simpa using hc 1 (by decide), by simpa using hc 2 (by decide), by simpa using hc 3 (by decide)⟩
def Few (l : List (Int × Int × Int × List UInt8)) : Prop := l.length ≤ 200 ∧ ∀ (i : Nat) (K p q : Int) (r : List UInt8), l[i]? = some (K, p, q, r) → r.length ≤ 1024
set_option maxHeartbeats 400000 in
theorem vast_any (a : Option Addr) (n c : Nat) (l : List (Int × Int × Int × List UInt8)) (w : World) (hl : SlOf VOp 4 w (.slice a n c) l) :
    Calls Try.prog 9 #[.slice a n c] w fun e w' => ∃ B, e = .returned (.bool B) ∧ Hid (B = false → Few l) ∧ Below w.heap.size w w' := by
  have hn := hl.len
  have HN := Lib.hid hn.1
  have hn2 := hn.2
  clear hn
  by_cases h1 : 200 < n
  · have h1' : (200 : Int) < n := by omega
    go_enter Try.func9, Try.ntmps9
    go_wp2_with fail
    go_ret
    exact ⟨true, rfl, Lib.hid (fun h => by cases h), Below.refl _ _⟩
  have h1' : ¬ (200 : Int) < n := by omega
  go_enter Try.func9, Try.ntmps9
  go_wp2_with fail
  go_loopw [3] (fun v3 wr => ∃ k : Nat, k ≤ n ∧ v3 = .int .i64 k ∧ (∀ (i : Nat) (K p q : Int) (r : List UInt8), i < k → l[i]? = some (K, p, q, r) → r.length ≤ 1024) ∧ Below w.heap.size w wr) (fun v3 _ => n - (intOf v3).toNat)
  case atStart => exact ⟨0, Nat.zero_le _, rfl, (fun i K p q r h => by omega), Below.refl _ _⟩
  case round =>
    obtain ⟨k, hk, rfl, ha, hb⟩ := hrel
    have HA := Lib.hid ha
    clear ha
    by_cases hkn : k = n
    · subst hkn
      go_wp2_with fail
      go_ret
      refine ⟨false, rfl, Lib.hid fun _ => ⟨by rw [← HN.out]; omega, fun i K p q r h => HA.out i K p q r ?_ h⟩, hb⟩
      have h8 := (List.getElem?_eq_some_iff.1 h).1
      have h9 := HN.out
      omega
    · have hlt : k < n := by omega
      have hlt' : (k : Int) < n := by omega
      obtain ⟨b, off, av, cv, m, K, p, q, r, rfl, hri, hrm, hop, hc0, hc1, hc2, hc3⟩ := op_at (hl.below stabOp hb) k hlt
      have HRI := Lib.hid hri
      have HRM := Lib.hid hrm
      clear hri hrm hop hc0 hc1 hc2
      by_cases h5 : 1024 < m
      · have h5' : (1024 : Int) < m := by omega
        go_wp2_with fail
        go_ret
        exact ⟨true, rfl, Lib.hid (fun h => by cases h), hb⟩
      · have h5' : ¬ (1024 : Int) < m := by omega
        go_wp2_with fail
        refine ⟨⟨k + 1, by omega, by go_num, fun i K' p' q' r' hi h => ?_, hb⟩, by simp [intOf]; omega⟩
        by_cases hik : i < k
        · exact HA.out i K' p' q' r' hik h
        · obtain rfl : i = k := by omega
          rw [HRI.out] at h
          cases h
          have := HRM.out
          omega

def doIs (S : List Nat) (K p q : Int) (l : List UInt8) : Bool := if K = 0 then setIs p q else if K = 1 then hasS S p else if K = 2 then layIs p l else false
def doS (S : List Nat) (K p q : Int) (l : List UInt8) : List Nat := if K = 0 then setS S p q else if K = 1 then clearS S p else if K = 2 then layS S p l else S
theorem good_do {S : List Nat} (h : Good S) (K p q : Int) (l : List UInt8) : Good (doS S K p q l) := by
  unfold doS
  split
  · unfold setS
    split
    · rename_i hs
      simp only [setIs, Bool.and_eq_true, decide_eq_true_eq] at hs
      exact h.set _ _ (by omega)
    · exact h
  · split
    · unfold clearS
      split
      · exact h.set _ _ (by omega)
      · exact h
    · split
      · exact good_lay h _ _
      · exact h
set_option maxRecDepth 100000 in
set_option maxHeartbeats 1600000 in
theorem does_p (b : Nat) (S : List Nat) (K p q : Int) (av : Option Addr) (n cv : Nat) (l : List UInt8) (w : World) (h : PM w b S) (ho : OpIs w K p q av n cv l) (hsz : n ≤ 1024) (B : Bool) (hB : Hid (B = doIs S K p q l)) (T : List Nat) (hT : Hid (T = doS S K p q l)) :
    Calls Try.prog 12 #[.pointer (some ⟨b, 0, none⟩), .agg #[.int .i64 K, .int .i64 p, .int .i64 q, .slice av n cv]] w fun e w' => e = .returned (.bool B) ∧ PM w' b T ∧ Mods (fun g => g = b) w w' := by
  have hb1 := (Below.refl w.heap.size w).alloc (Nat.le_refl _) (.cells #[.int .i64 K, .int .i64 p, .int .i64 q, .slice av n cv] 30)
  have h1 := h.below hb1
  have hm1 := Mods.fresh hb1 (fun g => g = b)
  have hsl := ho.sl.below hb1
  by_cases hK0 : K = 0
  · subst hK0
    have HB : Hid (B = setIs p q) := hB.out
    have HT : Hid (T = setS S p q) := hT.out
    go_enter Try.func12, Try.ntmps12
    go_wp2_with fail
    refine (set_p b S p q _ h1 B HB T HT).mono ?_
    rintro e w2 ⟨rfl, h2, hm2⟩
    go_wp2_with fail
    go_ret
    exact ⟨rfl, h2, hm1.trans hm2⟩
  have hK0' : (K == 0) = false := by rw [beq_eq_false_iff_ne]; exact hK0
  by_cases hK1 : K = 1
  · subst hK1
    have HB : Hid (B = hasS S p) := hB.out
    have HT : Hid (T = clearS S p) := hT.out
    go_enter Try.func12, Try.ntmps12
    go_wp2_with fail
    refine (clear_p b S p _ h1 B HB T HT).mono ?_
    rintro e w2 ⟨rfl, h2, hm2⟩
    go_wp2_with fail
    go_ret
    exact ⟨rfl, h2, hm1.trans hm2⟩
  have hK1' : (K == 1) = false := by rw [beq_eq_false_iff_ne]; exact hK1
  by_cases hK2 : K = 2
  · subst hK2
    have HB : Hid (B = layIs p l) := hB.out
    have HT : Hid (T = layS S p l) := hT.out
    have hnl := hsl.len.1
    have HNL := Lib.hid hnl
    clear hnl hB hT
    have hbs : b < (w.alloc (.cells #[.int .i64 2, .int .i64 p, .int .i64 q, .slice av n cv] 30)).heap.size := h1.lt
    have hcell : ∀ j u, #[Value.int .i64 2, .int .i64 p, .int .i64 q, .slice av n cv][j]? = some u → (w.alloc (.cells #[.int .i64 2, .int .i64 p, .int .i64 q, .slice av n cv] 30)).cell? ⟨w.heap.size, j, none⟩ = some u := by
      intro j u hu
      have := (Sl.litS w [.int .i64 2, .int .i64 p, .int .i64 q, .slice av n cv] 30 1 4 rfl (by decide)).addr (by decide)
      obtain ⟨b', o', e1, e2, e3⟩ := this
      cases e1
      simpa using e3 j u (by simpa using hu)
    have C1 := Lib.hid (hcell 1 _ rfl)
    have HL := Lib.hid hsl
    have HH := Lib.hid h1
    clear hcell hsl h1
    go_enter Try.func12, Try.ntmps12
    go_wp2_with (at_builtin; refine wpL_append0 etB rfl _ _ rfl w.heap.size (show Value.slice (some ⟨w.heap.size + 1, 0, none⟩) 0 0 = Value.slice (some ⟨(w.alloc _).heap.size, 0, none⟩) 0 0 by rw [World.size_alloc]) HL.out rfl (bvs_one _) (by omega) (by simp [maxLen]; omega) (by simp) ?_; intro v5 w5 ho5 hb5; obtain ⟨a5, c5, rfl⟩ := ho5.form; have d1 := (hb5.cell (p := ⟨w.heap.size, 1, none⟩) (lt_of_cell C1.out)).trans C1.out)
    have hbw : b < w.heap.size := h.lt
    have hne : ∀ g, (Value.slice a5 n c5).ownBlock = some g → ¬ g = b := fun g hg e => by have := ho5.lt g hg; omega
    refine (lay_p b S p a5 n c5 l w5 (HH.out.below hb5) ho5.sl (fun _ => hne) (by omega) B HB T HT).mono ?_
    rintro e w6 ⟨rfl, h6, hm6⟩
    have ho6 := ho5.mods hm6 hne
    have hM6 := (hm1.trans (Mods.fresh hb5 _)).trans hm6
    clear d1 C1 HL HH hb5 hm6 ho5 hb1 hm1 hbs h
    go_wp2_with fail
    go_loopw [7] (fun v7 wr => ∃ (k : Nat) (xs : List Value), k ≤ n ∧ v7 = .int .i64 k ∧ PM wr b T ∧ Mods (fun g => g = b) w wr ∧ Own wr w.heap.size 1 (.slice a5 n c5) n xs) (fun v7 _ => n - (intOf v7).toNat)
    case atStart => exact ⟨0, _, Nat.zero_le _, rfl, h6, hM6, ho6⟩
    case round =>
      clear h6 ho6 hM6
      obtain ⟨k, xs, hk, rfl, h6, hM6, ho6⟩ := hrel
      by_cases hkn : k = n
      · subst hkn
        go_wp2_with fail
        go_ret
        exact ⟨rfl, h6, hM6⟩
      · have hlt : k < n := by omega
        have hlt' : (k : Int) < n := by omega
        obtain ⟨g, off, cap, e6, g1, g2, g3, g4, g5⟩ := ho6.open (by omega) (by decide)
        cases e6
        have hxl : k < xs.length := by omega
        have hc := ho6.get k hxl
        rw [List.getElem?_eq_getElem hxl] at hc
        have hf := ho6.free k hxl
        generalize xs[k] = old at hc
        have hs := ho6.set k (.int .u8 85)
        have hms := Mods.set w6 g (off + k) (.int .u8 85)
        have hms2 := Mods.set wr g (off + k) (.int .u8 85)
        have h7 := h6.mods hms2 (by omega)
        have hM7 := hM6.after hms2 (fun q hq => by right; omega)
        clear hms g5
        go_wp2_with fail
        exact ⟨⟨k + 1, _, by omega, by go_num, h7, hM7, hs⟩, by simp [intOf]; omega⟩
  · have hK2' : (K == 2) = false := by rw [beq_eq_false_iff_ne]; exact hK2
    have HB : B = false := by rw [hB.out, doIs, if_neg hK0, if_neg hK1, if_neg hK2]
    have HT : T = S := by rw [hT.out, doS, if_neg hK0, if_neg hK1, if_neg hK2]
    clear hB hT
    subst HB HT
    clear hK0 hK1 hK2
    go_enter Try.func12, Try.ntmps12
    go_wp2_with fail
    go_ret
    exact ⟨rfl, h1, hm1⟩
end Go.Proofs.Ytljbpflcnicaiaa
