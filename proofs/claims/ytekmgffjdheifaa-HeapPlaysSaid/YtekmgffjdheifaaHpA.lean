/-
  A heap's words and objects, walked: wordy, may, Size, clone. Conditions: objects of 2^20 words and bytes of text at most.
-/
import Derived.Test.YtekmgffjdheifaaHpM
import Derived.Deep.CutBlock
import Derived.Deep.Cut
namespace Go.Proofs.Ytekmgffjdheifaa
open Go.RowKit
set_option linter.unusedVariables false
set_option linter.unusedSimpArgs false
set_option maxRecDepth 100000

theorem wordyB_eq (k : UInt8) (z : Int) : wordyB (k, z) = (decide (k.toNat = 1) || decide (k.toNat = 2)) := by
  unfold wordyB
  congr 1 <;> exact decide_eq_decide.2 ⟨fun h => by rw [show k = _ from h]; rfl, fun h => UInt8.toNat_inj.1 h⟩
theorem wordy_any (k : Nat) (z : Int) (w : World) : Calls Try.prog 49 #[.agg #[.int .u8 (k : Int), .int .i64 z]] w fun e w' => e = .returned (.bool (decide (k = 1) || decide (k = 2))) ∧ Below w.heap.size w w' := by
  have hb1 : Below w.heap.size w (w.alloc (.cells #[.int .u8 (k : Int), .int .i64 z] 47)) := (Below.refl _ _).alloc (Nat.le_refl _) _
  by_cases k1 : k = 1
  · subst k1
    go_enter Try.func49, Try.ntmps49
    go_wp2_with fail
    go_ret
    exact ⟨rfl, hb1⟩
  have e1 : ((k : Int) == 1) = false := by rw [beq_eq_false_iff_ne]; omega
  by_cases k2 : k = 2
  · subst k2
    go_enter Try.func49, Try.ntmps49
    go_wp2_with fail
    go_ret
    exact ⟨rfl, hb1⟩
  have e2 : ((k : Int) == 2) = false := by rw [beq_eq_false_iff_ne]; omega
  go_enter Try.func49, Try.ntmps49
  go_wp2_with fail
  go_ret
  exact ⟨by simp [k1, k2], hb1⟩
theorem may1_any (k : Nat) (z : Int) (w : World) : Calls Try.prog 70 #[.agg #[.int .u8 (k : Int), .int .i64 z]] w fun e w' => e = .returned (.bool (!(decide (k = 1) || decide (k = 2)))) ∧ Below w.heap.size w w' := by
  have hb1 : Below w.heap.size w (w.alloc (.cells #[.int .u8 (k : Int), .int .i64 z] 47)) := (Below.refl _ _).alloc (Nat.le_refl _) _
  generalize hB : (decide (k = 1) || decide (k = 2)) = B
  have HB := Lib.hid hB
  clear hB
  go_enter Try.func70, Try.ntmps70
  go_wp2_with fail
  refine (wordy_any k z _).mono ?_
  rintro e w2 ⟨rfl, hb2⟩
  rw [HB.out]
  go_wp2_with fail
  go_ret
  exact ⟨rfl, hb1.trans (hb2.mono hb1.size)⟩
set_option maxHeartbeats 800000 in
theorem indexFunc_any (a : Option Addr) (n c : Nat) (l : List (UInt8 × Int)) (w : World) (hl : Sl w 2 (.slice a n c) n (wcells l)) :
    Calls Try.prog 80 #[.slice a n c, .func (.func 70) #[] #[]] w fun e w' => (∃ z : Int, e = .returned (.int .i64 z) ∧ Hid (decide (0 ≤ z) = oddL l)) ∧ Below w.heap.size w w' := by
  have hn := hl.wordLen
  have HN := Lib.hid hn.1
  have hn2 := hn.2
  clear hn
  go_enter Try.func80, Try.ntmps80
  go_wp2_with fail
  go_loopw [5, 8] (fun v5 v8 wr => ∃ k : Nat, k ≤ n ∧ v8 = .int .i64 k ∧ Below w.heap.size w wr ∧ Hid (oddL (l.take k) = false)) (fun _ v8 _ => n - (intOf v8).toNat)
  case atStart => exact ⟨0, Nat.zero_le _, rfl, Below.refl _ _, Lib.hid (by simp [oddL])⟩
  case round =>
    obtain ⟨k, hk, rfl, hb, HT⟩ := hrel
    by_cases hkn : k = n
    · subst hkn
      go_wp2_with fail
      go_ret
      have e := HT.out
      rw [List.take_of_length_le (by rw [HN.out]; exact Nat.le_refl _)] at e
      exact ⟨⟨_, rfl, Lib.hid (by rw [e]; rfl)⟩, hb⟩
    · have hlt : k < n := by omega
      have hlt' : (k : Int) < n := by omega
      obtain ⟨b1, o1, rfl, hc1, hc2⟩ := (hl.below hb).word hlt
      have HT1 : Hid (oddL (l.take (k + 1)) = (oddL (l.take k) || !wordyB (l.getD k (0, 0)))) := any_take_succ (fun x => !wordyB x) _ _ _ (by rw [HN.out]; exact hlt)
      have HA : Hid ((!wordyB (l.getD k (0, 0))) = true → oddL l = true) := any_of_take (fun x => !wordyB x) _ _ _ (by rw [HN.out]; exact hlt)
      have HB : Hid ((!wordyB (l.getD k (0, 0))) = !(decide ((l.getD k (0, 0)).1.toNat = 1) || decide ((l.getD k (0, 0)).1.toNat = 2))) := by rw [← wordyB_eq (l.getD k (0, 0)).1 (l.getD k (0, 0)).2]; exact rfl
      generalize (l.getD k (0, 0)).1.toNat = q at hc1 HB
      generalize (l.getD k (0, 0)).2 = z at hc2 HB
      generalize (!wordyB (l.getD k (0, 0))) = B at HB HT1 HA
      have hw : ∀ w, Calls Try.prog 70 #[.agg #[.int .u8 (q : Int), .int .i64 z]] w fun e w' => e = .returned (.bool B) ∧ Below w.heap.size w w' := by
        intro w; rw [HB.out]; exact may1_any q z w
      have HW := Lib.hid hw
      clear hw
      cases B with
      | true =>
        go_wp2_with (go_at_call 70; refine (HW.out _).mono ?_; rintro e w' ⟨rfl, hb2⟩)
        go_ret
        exact ⟨⟨_, rfl, Lib.hid (by rw [HA.out trivial]; exact decide_eq_true (Int.natCast_nonneg k))⟩, hb.trans (hb2.mono hb.size)⟩
      | false =>
        go_wp2_with (go_at_call 70; refine (HW.out _).mono ?_; rintro e w' ⟨rfl, hb2⟩)
        exact ⟨⟨k + 1, by omega, by go_num, hb.trans (hb2.mono hb.size), Lib.hid (by rw [HT1.out, HT.out]; rfl)⟩, by simp [intOf]; omega⟩
theorem contains_any (a : Option Addr) (n c : Nat) (l : List (UInt8 × Int)) (w : World) (hl : Sl w 2 (.slice a n c) n (wcells l)) (B : Bool) (H : Hid (B = oddL l)) :
    Calls Try.prog 69 #[.slice a n c, .func (.func 70) #[] #[]] w fun e w' => e = .returned (.bool B) ∧ Below w.heap.size w w' := by
  go_enter Try.func69, Try.ntmps69
  go_wp2_with fail
  refine (indexFunc_any a n c l w hl).mono ?_
  rintro e w1 ⟨⟨z, rfl, hz⟩, hb⟩
  go_wp2_with fail
  go_ret
  rw [H.out, ← hz.out]
  exact ⟨rfl, hb⟩
theorem okinds (k : Nat) : k = 1 ∨ k = 2 ∨ k = 3 ∨ k = 4 ∨ k = 5 ∨ k = 6 ∨ k = 7 ∨ k = 8 ∨ (((k : Int) == 1) = false ∧ ((k : Int) == 2) = false ∧ ((k : Int) == 3) = false ∧ ((k : Int) == 4) = false ∧ ((k : Int) == 5) = false ∧ ((k : Int) == 6) = false ∧ ((k : Int) == 7) = false ∧ ((k : Int) == 8) = false ∧ ¬ k = 1 ∧ ¬ k = 2 ∧ ¬ k = 3 ∧ ¬ k = 4 ∧ ¬ k = 5 ∧ ¬ k = 6 ∧ ¬ k = 7 ∧ ¬ k = 8) := by
  simp only [beq_eq_false_iff_ne]
  omega
set_option maxHeartbeats 1600000 in
theorem shape_any (k : Nat) (w : World) : Calls Try.prog 68 #[.int .u8 (k : Int)] w fun e w' => e = .returned (.tuple #[.int .i64 (lstN k), .int .i64 (mstN k), .int .i64 (fstN k), .int .i64 (lasN k)]) ∧ w = w' := by
  rcases okinds k with rfl | rfl | rfl | rfl | rfl | rfl | rfl | rfl | ⟨e1, e2, e3, e4, e5, e6, e7, e8, n1, n2, n3, n4, n5, n6, n7, n8⟩
  iterate 8
    · go_enter Try.func68, Try.ntmps68
      go_wp2_with fail
      (try simp only [Exit.inBlock, Exit.then]); refine bodyPost_ret (results_tmp4 rfl _ _ _) rfl ?_
      exact ⟨rfl, rfl⟩
  · go_enter Try.func68, Try.ntmps68
    go_wp2_with fail
    (try simp only [Exit.inBlock, Exit.then]); refine bodyPost_ret (results_tmp4 rfl _ _ _) rfl ?_
    refine ⟨?_, rfl⟩
    simp [lstN, mstN, fstN, lasN, n1, n2, n3, n4, n5, n6, n7, n8]
def objV (k : Nat) (t : Int) (v : Value) (S : List UInt8) : Value := .agg #[.int .u8 (k : Int), .int .i64 t, v, .string (str S)]
set_option maxHeartbeats 4000000 in
theorem may_p (k : Nat) (t : Int) (a : Option Addr) (n c : Nat) (l : List (UInt8 × Int)) (S : List UInt8) (w : World) (hl : Sl w 2 (.slice a n c) n (wcells l)) (X : Bool) (H : Hid (X = mayN k t n (oddL l) (decide (S = [])))) :
    Calls Try.prog 45 #[.agg #[.int .u8 (k : Int), .int .i64 t, .slice a n c, .string (str S)]] w fun e w' => e = .returned (.bool X) ∧ Below w.heap.size w w' := by
  go_enter Try.func45, Try.ntmps45
  have hb1 : Below w.heap.size w (w.alloc (.cells #[.int .u8 (k : Int), .int .i64 t, .slice a n c, .string (str S)] 25)) := (Below.refl _ _).alloc (Nat.le_refl _) _
  have hr1 := Row.new w [.int .u8 (k : Int), .int .i64 t, .slice a n c, .string (str S)] 25
  have hl1 := hl.below hb1
  have HL1 := Lib.hid hl1
  have hn := hl.wordLen.2
  go_wp2_with fail
  refine (shape_any k _).mono ?_
  rintro e w1 ⟨rfl, rfl⟩
  have HM : Hid (X = (decide (lstN k ≤ n) && decide ((n : Int) ≤ mstN k) && decide (fstN k ≤ t) && decide (t ≤ lasN k) && !oddL l && (decide (S = []) || decide (k = 5)))) := H
  clear H
  generalize lstN k = p at HM ⊢
  generalize mstN k = q at HM ⊢
  generalize fstN k = p2 at HM ⊢
  generalize lasN k = q2 at HM ⊢
  generalize hOd : oddL l = Od at HM
  have HO : Hid (Od = oddL l) := Lib.hid hOd.symm
  clear hOd
  go_wp2_with fail
  refine (contains_any a n c l _ HL1.out Od HO).mono ?_
  rintro e w2 ⟨rfl, hb2⟩
  have hr2 := hr1.after hb2
  have hB2 := hb1.trans (hb2.mono hb1.size)
  have c0 := hr2.cell 0
  have c1 := hr2.cell 1
  have c3 := hr2.cell 3
  simp only [List.getElem?_cons_zero, List.getElem?_cons_succ] at c0 c1 c3
  clear hr1 hl1 HL1 hb1 hb2 hr2
  by_cases g1 : p ≤ (n : Int)
  rotate_left
  · have g1' : (n : Int) < p := by omega
    have G := Lib.hid g1
    clear g1
    go_wp2_with fail
    go_ret
    rw [HM.out, decide_eq_false (show ¬ p ≤ (n : Int) by have := G.out; omega)]
    exact ⟨rfl, hB2⟩
  by_cases g2 : (n : Int) ≤ q
  rotate_left
  · have g2' : q < (n : Int) := by omega
    have G := Lib.hid g2
    clear g2
    go_wp2_with fail
    go_ret
    rw [HM.out, decide_eq_false (show ¬ (n : Int) ≤ q by have := G.out; omega)]
    exact ⟨by simp, hB2⟩
  by_cases g3 : p2 ≤ t
  rotate_left
  · have g3' : t < p2 := by omega
    have G := Lib.hid g3
    clear g3
    go_wp2_with fail
    go_ret
    rw [HM.out, decide_eq_false (show ¬ p2 ≤ t by have := G.out; omega)]
    exact ⟨by simp, hB2⟩
  by_cases g4 : t ≤ q2
  rotate_left
  · have g4' : q2 < t := by omega
    have G := Lib.hid g4
    clear g4
    go_wp2_with fail
    go_ret
    rw [HM.out, decide_eq_false (show ¬ t ≤ q2 by have := G.out; omega)]
    exact ⟨by simp, hB2⟩
  cases Od with
  | true =>
    go_wp2_with fail
    go_ret
    rw [HM.out]
    exact ⟨by simp, hB2⟩
  | false =>
    by_cases hS : S = []
    · have hS1 : (str S).toList.isEmpty = true := by rw [ByteArray.toList_eq, str_toList, hS]; rfl
      have HS := Lib.hid hS
      clear hS
      go_wp2_with fail
      go_ret
      rw [HM.out, decide_eq_true g1, decide_eq_true g2, decide_eq_true g3, decide_eq_true g4, decide_eq_true HS.out]
      exact ⟨rfl, hB2⟩
    · have hS1 : (str S).toList.isEmpty = false := by rw [ByteArray.toList_eq, str_toList, List.isEmpty_eq_false_iff]; exact hS
      have HS := Lib.hid hS
      clear hS
      by_cases k5 : k = 5
      · subst k5
        go_wp2_with fail
        go_ret
        rw [HM.out, decide_eq_true g1, decide_eq_true g2, decide_eq_true g3, decide_eq_true g4]
        exact ⟨by simp, hB2⟩
      · have k5' : ((k : Int) == 5) = false := by rw [beq_eq_false_iff_ne]; omega
        go_wp2_with fail
        go_ret
        rw [HM.out, decide_eq_false k5, decide_eq_false HS.out]
        exact ⟨by simp, hB2⟩
theorem u8_eq {k : UInt8} {n : UInt8} : k = n ↔ k.toNat = n.toNat := UInt8.toNat_inj.symm
/-- of an object -/
theorem mayO_p (o : Ob) (a : Option Addr) (n c : Nat) (w : World) (hn : o.l.length = n) (hl : Sl w 2 (.slice a n c) n (wcells o.l)) (X : Bool) (H : Hid (X = mayO o)) :
    Calls Try.prog 45 #[.agg #[.int .u8 (o.k.toNat : Int), .int .i64 o.t, .slice a n c, .string (str o.s)]] w fun e w' => e = .returned (.bool X) ∧ Below w.heap.size w w' :=
  may_p o.k.toNat o.t a n c o.l o.s w hl X (by subst hn; exact H)
theorem size_any (o : Ob) (a : Option Addr) (n c m : Nat) (w : World) (hn : o.l.length = n) (hm : o.s.length = m) (hn9 : n ≤ 1073741824) (hm9 : m ≤ 1073741824) (Z : Nat) (HZ : Hid (Z = sizeO o)) :
    Calls Try.prog 17 #[.agg #[.int .u8 (o.k.toNat : Int), .int .i64 o.t, .slice a n c, .string (str o.s)]] w fun e w' => e = .returned (.int .i64 (Z : Nat)) ∧ Below w.heap.size w w' := by
  have hsl : (str o.s).size = m := by rw [str_size]; exact hm
  have HK : Hid (o.k = 8 ↔ o.k.toNat = 8) := Lib.hid u8_eq
  obtain ⟨k, hk⟩ : ∃ k, k = o.k.toNat := ⟨_, rfl⟩
  rw [← hk] at HK ⊢
  clear hk
  generalize hst : str o.s = st at hsl ⊢
  have hz : Hid (Z = if o.k = 8 then 1 else 1 + n + (m + 7) / 8) := by subst hn hm; exact HZ
  clear HZ hst
  have hb1 : Below w.heap.size w (w.alloc (.cells #[.int .u8 (k : Int), .int .i64 o.t, .slice a n c, .string st] 25)) := (Below.refl _ _).alloc (Nat.le_refl _) _
  by_cases k8 : k = 8
  · subst k8
    obtain rfl : Z = 1 := by rw [hz.out, if_pos (HK.out.2 rfl)]
    go_enter Try.func17, Try.ntmps17
    go_wp2_with fail
    go_ret
    exact ⟨rfl, hb1⟩
  · have e8 : ((k : Int) == 8) = false := by rw [beq_eq_false_iff_ne]; omega
    have hZ : Z = 1 + n + (m + 7) / 8 := by rw [hz.out, if_neg (fun e => k8 (HK.out.1 e))]
    clear hz HK k8
    have hq : (((m : Int) + 8 - 1)).tdiv 8 = (((m + 7) / 8 : Nat) : Int) := by
      rw [Int.tdiv_eq_ediv_of_nonneg (by omega)]
      omega
    go_enter Try.func17, Try.ntmps17
    go_wp2_with fail
    go_ret
    refine ⟨?_, hb1⟩
    subst hZ
    have : ((1 + n + (m + 7) / 8 : Nat) : Int) = 1 + (n : Int) + ((m + 7) / 8 : Nat) := by omega
    first | rfl | rw [this] | (go_num)
/-- words in new memory -/
theorem cloneW_any (a : Option Addr) (n c : Nat) (l : List (UInt8 × Int)) (w : World) (hl : Sl w 2 (.slice a n c) n (wcells l)) (hn9 : n ≤ 1073741824) :
    Calls Try.prog 71 #[.slice a n c] w fun e w' => ∃ v, e = .returned v ∧ Own w' w.heap.size 2 v n (wcells l) ∧ Below w.heap.size w w' := by
  have hnil := fun w => Lib.run_eql_slice_nil (P := Try.prog) w 23 47 a n c 0 0 Try.underlying23
  cases a with
  | none =>
    obtain rfl : n = 0 := by have := hl.2; obtain ⟨a', c', he, h1, h2, h3, h4⟩ := this; cases he; have := h3 rfl; omega
    have h0 : l = [] := List.eq_nil_of_length_eq_zero hl.wordLen.1
    subst h0
    go_enter Try.func71, Try.ntmps71
    go_wp2_with fail
    go_ret
    exact ⟨_, rfl, Own.nil _ _ _, Below.refl _ _⟩
  | some ad =>
    have HL := Lib.hid hl
    clear hl
    go_enter Try.func71, Try.ntmps71
    go_wp2_with (at_builtin; refine wpL_append0 etW rfl _ _ rfl w.heap.size rfl HL.out rfl (wcells_one _) (by omega) (by simp [maxLen]; omega) (Nat.le_refl _) ?_; intro v2 w2 hown2 hb2)
    go_ret
    exact ⟨_, rfl, hown2, hb2⟩
end Go.Proofs.Ytekmgffjdheifaa
