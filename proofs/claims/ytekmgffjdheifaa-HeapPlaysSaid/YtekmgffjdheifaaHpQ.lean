/-
  The document's May at objects, walked. Conditions: the object reads.
-/
import Derived.Test.YtekmgffjdheifaaHpU
namespace Go.Proofs.Ytekmgffjdheifaa
open Go Go.RowKit
set_option linter.unusedVariables false
set_option linter.unusedSimpArgs false
set_option maxRecDepth 100000

theorem odd_at {l : List (UInt8 × Int)} {i : Nat} (h : i < l.length) (hw : wordyB (l.getD i (0, 0)) = false) : oddL l = true := by
  rw [getD_lt h] at hw
  exact List.any_eq_true.2 ⟨l[i], List.getElem_mem h, by simp [hw]⟩
theorem odd_none {l : List (UInt8 × Int)} (h : ∀ i, i < l.length → wordyB (l.getD i (0, 0)) = true) : oddL l = false := by
  refine List.any_eq_false.2 fun x hx => ?_
  obtain ⟨i, hi, rfl⟩ := List.mem_iff_getElem.1 hx
  have := h i hi
  rw [getD_lt hi] at this
  simp [this]
theorem mayN_fin {k : Nat} {t : Int} {n : Nat} {e X : Bool} (hX : X = mayN k t n false e) {b1 b2 b3 : Bool} (h1 : lstN k ≤ n ∧ (n : Int) ≤ mstN k) (h2 : (decide (0 ≤ t) && decide (t ≤ lasN k)) = (decide (fstN k ≤ t) && decide (t ≤ lasN k))) : X = ((e || decide (k = 5)) && (decide (0 ≤ t) && decide (t ≤ lasN k))) := by
  rw [hX, h2, mayN, decide_eq_true h1.1, decide_eq_true h1.2]
  cases e <;> cases decide (k = 5) <;> simp
set_option maxHeartbeats 8000000 in
theorem mayR_p (k : Nat) (t : Int) (a : Option Addr) (n c : Nat) (l : List (UInt8 × Int)) (S : List UInt8) (w : World) (hl : Sl w 2 (.slice a n c) n (wcells l)) (hn9 : n ≤ 1048576) (X : Bool) (H : Hid (X = mayN k t n (oddL l) (decide (S = [])))) :
    Calls Try.prog 16 #[.agg #[.int .u8 (k : Int), .int .i64 t, .slice a n c, .string (str S)]] w fun e w' => e = .returned (.bool X) ∧ Below w.heap.size w w' := by
  have hb1 : Below w.heap.size w (w.alloc (.cells #[.int .u8 (k : Int), .int .i64 t, .slice a n c, .string (str S)] 25)) := (Below.refl _ _).alloc (Nat.le_refl _) _
  have hr1 := Row.new w [.int .u8 (k : Int), .int .i64 t, .slice a n c, .string (str S)] 25
  have HL1 := Lib.hid (hl.below hb1)
  have HLN : Hid (l.length = n) := Lib.hid hl.wordLen.1
  clear hl
  go_enter Try.func16, Try.ntmps16
  go_wp2_with fail
  go_loopw [3] (fun v3 wr => ∃ i : Nat, i ≤ n ∧ v3 = .int .i64 (i : Nat) ∧ Below w.heap.size w wr ∧ Hid (Row wr w.heap.size 25 [.int .u8 (k : Int), .int .i64 t, .slice a n c, .string (str S)] ∧ Sl wr 2 (.slice a n c) n (wcells l) ∧ ∀ j, j < i → wordyB (l.getD j (0, 0)) = true)) (fun v3 _ => n - (intOf v3).toNat)
  case atStart => exact ⟨0, Nat.zero_le _, rfl, hb1, Lib.hid ⟨hr1, HL1.out, fun j hj => by omega⟩⟩
  case round =>
    clear hb1 hr1 HL1
    obtain ⟨i, hi, rfl, hb, HR⟩ := hrel
    have c2 := HR.out.1.cell 2
    simp only [List.getElem?_cons_zero, List.getElem?_cons_succ] at c2
    by_cases hin : i = n
    · subst hin
      have c0 := HR.out.1.cell 0
      have c1 := HR.out.1.cell 1
      have c3 := HR.out.1.cell 3
      simp only [List.getElem?_cons_zero, List.getElem?_cons_succ] at c0 c1 c3
      have HX : Hid (X = mayN k t i false (decide (S = []))) := Lib.hid (by rw [H.out, odd_none (fun j hj => HR.out.2.2 j (by rw [← HLN.out]; exact hj))])
      clear H HR HLN
      rcases okinds k with rfl | rfl | rfl | rfl | rfl | rfl | rfl | rfl | ⟨e1, e2, e3, e4, e5, e6, e7, e8, n1, n2, n3, n4, n5, n6, n7, n8⟩
      · by_cases hi2 : (i : Int) < 2
        · go_wp2_with fail
          go_ret
          exact ⟨by rw [HX.out]; simp [mayN, lstN, mstN, fstN, lasN]; (try omega), hb⟩
        · cases hE : decide (S = []) with
          | false =>
            have hS1 : (str S).toList.isEmpty = false := by rw [ByteArray.toList_eq, str_toList, List.isEmpty_eq_false_iff]; exact of_decide_eq_false hE
            rw [hE] at HX
            clear hE
            go_wp2_with fail
            go_ret
            exact ⟨by rw [HX.out]; simp [mayN, lstN, mstN, fstN, lasN], hb⟩
          | true =>
            have hS1 : (str S).toList.isEmpty = true := by rw [ByteArray.toList_eq, str_toList, of_decide_eq_true hE]; rfl
            rw [hE] at HX
            have HE := Lib.hid hE
            clear hE
            by_cases h0 : 0 ≤ t
            · by_cases h1 : t ≤ 0
              · go_wp2_with fail
                go_ret
                exact ⟨by rw [HX.out]; simp [mayN, lstN, mstN, fstN, lasN, HE.out]; (try omega), hb⟩
              · go_wp2_with fail
                go_ret
                exact ⟨by rw [HX.out]; simp [mayN, lstN, mstN, fstN, lasN]; (try omega), hb⟩
            · first | (exfalso; omega) | (go_wp2_with fail; go_ret; exact ⟨by rw [HX.out]; simp [mayN, lstN, mstN, fstN, lasN]; (try omega), hb⟩)
      · by_cases hi2 : (1 : Int) < i
        · go_wp2_with fail
          go_ret
          exact ⟨by rw [HX.out]; simp [mayN, lstN, mstN, fstN, lasN]; (try omega), hb⟩
        · cases hE : decide (S = []) with
          | false =>
            have hS1 : (str S).toList.isEmpty = false := by rw [ByteArray.toList_eq, str_toList, List.isEmpty_eq_false_iff]; exact of_decide_eq_false hE
            rw [hE] at HX
            clear hE
            go_wp2_with fail
            go_ret
            exact ⟨by rw [HX.out]; simp [mayN, lstN, mstN, fstN, lasN], hb⟩
          | true =>
            have hS1 : (str S).toList.isEmpty = true := by rw [ByteArray.toList_eq, str_toList, of_decide_eq_true hE]; rfl
            rw [hE] at HX
            have HE := Lib.hid hE
            clear hE
            by_cases h0 : 0 ≤ t
            · by_cases h1 : t ≤ 65535
              · go_wp2_with fail
                go_ret
                exact ⟨by rw [HX.out]; simp [mayN, lstN, mstN, fstN, lasN, HE.out]; (try omega), hb⟩
              · go_wp2_with fail
                go_ret
                exact ⟨by rw [HX.out]; simp [mayN, lstN, mstN, fstN, lasN]; (try omega), hb⟩
            · first | (exfalso; omega) | (go_wp2_with fail; go_ret; exact ⟨by rw [HX.out]; simp [mayN, lstN, mstN, fstN, lasN]; (try omega), hb⟩)
      · by_cases hi2 : i = 1
        · subst hi2
          cases hE : decide (S = []) with
          | false =>
            have hS1 : (str S).toList.isEmpty = false := by rw [ByteArray.toList_eq, str_toList, List.isEmpty_eq_false_iff]; exact of_decide_eq_false hE
            rw [hE] at HX
            clear hE
            go_wp2_with fail
            go_ret
            exact ⟨by rw [HX.out]; simp [mayN, lstN, mstN, fstN, lasN], hb⟩
          | true =>
            have hS1 : (str S).toList.isEmpty = true := by rw [ByteArray.toList_eq, str_toList, of_decide_eq_true hE]; rfl
            rw [hE] at HX
            have HE := Lib.hid hE
            clear hE
            by_cases h0 : 0 ≤ t
            · by_cases h1 : t ≤ 0
              · go_wp2_with fail
                go_ret
                exact ⟨by rw [HX.out]; simp [mayN, lstN, mstN, fstN, lasN, HE.out]; (try omega), hb⟩
              · go_wp2_with fail
                go_ret
                exact ⟨by rw [HX.out]; simp [mayN, lstN, mstN, fstN, lasN]; (try omega), hb⟩
            · first | (exfalso; omega) | (go_wp2_with fail; go_ret; exact ⟨by rw [HX.out]; simp [mayN, lstN, mstN, fstN, lasN]; (try omega), hb⟩)
        · have hi3 : ((i : Int) != 1) = true := by simp; omega
          go_wp2_with fail
          go_ret
          exact ⟨by rw [HX.out]; simp [mayN, lstN, mstN, fstN, lasN]; (try omega), hb⟩
      · cases hE : decide (S = []) with
        | false =>
          have hS1 : (str S).toList.isEmpty = false := by rw [ByteArray.toList_eq, str_toList, List.isEmpty_eq_false_iff]; exact of_decide_eq_false hE
          rw [hE] at HX
          clear hE
          go_wp2_with fail
          go_ret
          exact ⟨by rw [HX.out]; simp [mayN, lstN, mstN, fstN, lasN], hb⟩
        | true =>
          have hS1 : (str S).toList.isEmpty = true := by rw [ByteArray.toList_eq, str_toList, of_decide_eq_true hE]; rfl
          rw [hE] at HX
          have HE := Lib.hid hE
          clear hE
          by_cases h0 : 0 ≤ t
          · by_cases h1 : t ≤ 0
            · go_wp2_with fail
              go_ret
              exact ⟨by rw [HX.out]; simp [mayN, lstN, mstN, fstN, lasN, HE.out]; (try omega), hb⟩
            · go_wp2_with fail
              go_ret
              exact ⟨by rw [HX.out]; simp [mayN, lstN, mstN, fstN, lasN]; (try omega), hb⟩
          · first | (exfalso; omega) | (go_wp2_with fail; go_ret; exact ⟨by rw [HX.out]; simp [mayN, lstN, mstN, fstN, lasN]; (try omega), hb⟩)
      · by_cases hi2 : i = 0
        · subst hi2
          have HE : Hid (True) := Lib.hid trivial
          by_cases h0 : 0 ≤ t
          · by_cases h1 : t ≤ 0
            · go_wp2_with fail
              go_ret
              exact ⟨by rw [HX.out]; simp [mayN, lstN, mstN, fstN, lasN, HE.out]; (try omega), hb⟩
            · go_wp2_with fail
              go_ret
              exact ⟨by rw [HX.out]; simp [mayN, lstN, mstN, fstN, lasN]; (try omega), hb⟩
          · first | (exfalso; omega) | (go_wp2_with fail; go_ret; exact ⟨by rw [HX.out]; simp [mayN, lstN, mstN, fstN, lasN]; (try omega), hb⟩)
        · have hi3 : ((i : Int) != 0) = true := by simp; omega
          go_wp2_with fail
          go_ret
          exact ⟨by rw [HX.out]; simp [mayN, lstN, mstN, fstN, lasN]; (try omega), hb⟩
      · by_cases hi2 : (1 : Int) < i
        · go_wp2_with fail
          go_ret
          exact ⟨by rw [HX.out]; simp [mayN, lstN, mstN, fstN, lasN]; (try omega), hb⟩
        · cases hE : decide (S = []) with
          | false =>
            have hS1 : (str S).toList.isEmpty = false := by rw [ByteArray.toList_eq, str_toList, List.isEmpty_eq_false_iff]; exact of_decide_eq_false hE
            rw [hE] at HX
            clear hE
            go_wp2_with fail
            go_ret
            exact ⟨by rw [HX.out]; simp [mayN, lstN, mstN, fstN, lasN], hb⟩
          | true =>
            have hS1 : (str S).toList.isEmpty = true := by rw [ByteArray.toList_eq, str_toList, of_decide_eq_true hE]; rfl
            rw [hE] at HX
            have HE := Lib.hid hE
            clear hE
            by_cases h0 : 0 ≤ t
            · by_cases h1 : t ≤ 65535
              · go_wp2_with fail
                go_ret
                exact ⟨by rw [HX.out]; simp [mayN, lstN, mstN, fstN, lasN, HE.out]; (try omega), hb⟩
              · go_wp2_with fail
                go_ret
                exact ⟨by rw [HX.out]; simp [mayN, lstN, mstN, fstN, lasN]; (try omega), hb⟩
            · first | (exfalso; omega) | (go_wp2_with fail; go_ret; exact ⟨by rw [HX.out]; simp [mayN, lstN, mstN, fstN, lasN]; (try omega), hb⟩)
      · cases hE : decide (S = []) with
        | false =>
          have hS1 : (str S).toList.isEmpty = false := by rw [ByteArray.toList_eq, str_toList, List.isEmpty_eq_false_iff]; exact of_decide_eq_false hE
          rw [hE] at HX
          clear hE
          go_wp2_with fail
          go_ret
          exact ⟨by rw [HX.out]; simp [mayN, lstN, mstN, fstN, lasN], hb⟩
        | true =>
          have hS1 : (str S).toList.isEmpty = true := by rw [ByteArray.toList_eq, str_toList, of_decide_eq_true hE]; rfl
          rw [hE] at HX
          have HE := Lib.hid hE
          clear hE
          by_cases h0 : 0 ≤ t
          · by_cases h1 : t ≤ 65535
            · go_wp2_with fail
              go_ret
              exact ⟨by rw [HX.out]; simp [mayN, lstN, mstN, fstN, lasN, HE.out]; (try omega), hb⟩
            · go_wp2_with fail
              go_ret
              exact ⟨by rw [HX.out]; simp [mayN, lstN, mstN, fstN, lasN]; (try omega), hb⟩
          · first | (exfalso; omega) | (go_wp2_with fail; go_ret; exact ⟨by rw [HX.out]; simp [mayN, lstN, mstN, fstN, lasN]; (try omega), hb⟩)
      · by_cases hi2 : i = 0
        · subst hi2
          by_cases ht : t < 1
          · go_wp2_with fail
            go_ret
            exact ⟨by rw [HX.out]; simp [mayN, lstN, mstN, fstN, lasN]; (try omega), hb⟩
          · cases hE : decide (S = []) with
            | false =>
              have hS1 : (str S).toList.isEmpty = false := by rw [ByteArray.toList_eq, str_toList, List.isEmpty_eq_false_iff]; exact of_decide_eq_false hE
              rw [hE] at HX
              clear hE
              go_wp2_with fail
              go_ret
              exact ⟨by rw [HX.out]; simp [mayN, lstN, mstN, fstN, lasN], hb⟩
            | true =>
              have hS1 : (str S).toList.isEmpty = true := by rw [ByteArray.toList_eq, str_toList, of_decide_eq_true hE]; rfl
              rw [hE] at HX
              have HE := Lib.hid hE
              clear hE
              by_cases h0 : 0 ≤ t
              · by_cases h1 : t ≤ 16384
                · go_wp2_with fail
                  go_ret
                  exact ⟨by rw [HX.out]; simp [mayN, lstN, mstN, fstN, lasN, HE.out]; (try omega), hb⟩
                · go_wp2_with fail
                  go_ret
                  exact ⟨by rw [HX.out]; simp [mayN, lstN, mstN, fstN, lasN]; (try omega), hb⟩
              · first | (exfalso; omega) | (go_wp2_with fail; go_ret; exact ⟨by rw [HX.out]; simp [mayN, lstN, mstN, fstN, lasN]; (try omega), hb⟩)
        · have hi3 : ((i : Int) != 0) = true := by simp; omega
          go_wp2_with fail
          go_ret
          exact ⟨by rw [HX.out]; simp [mayN, lstN, mstN, fstN, lasN]; (try omega), hb⟩
      · go_wp2_with fail
        go_ret
        exact ⟨by rw [HX.out]; simp [mayN, lstN, mstN, fstN, lasN, n1, n2, n3, n4, n5, n6, n7, n8]; omega, hb⟩
    have hlt : i < n := by omega
    have hlt' : (i : Int) < n := by omega
    obtain ⟨bw, ow, u0, ha, hu0, hc0⟩ := HR.out.2.1.at (k := i * 2) (by omega)
    obtain ⟨e0, e1⟩ := wcells_at l i (by rw [HLN.out]; exact hlt)
    rw [e0] at hu0
    cases hu0
    subst ha
    clear e0 e1
    have HW : Hid (wordyB (l.getD i (0, 0)) = (decide ((l.getD i (0, 0)).1.toNat = 1) || decide ((l.getD i (0, 0)).1.toNat = 2))) := Lib.hid (by
      unfold wordyB
      rw [decide_eq_decide.2 (u8_eq (n := 1)), decide_eq_decide.2 (u8_eq (n := 2))]
      rfl)
    have HOD : Hid (wordyB (l.getD i (0, 0)) = false → oddL l = true) := Lib.hid (odd_at (by rw [HLN.out]; exact hlt))
    generalize hq : (l.getD i (0, 0)).1.toNat = q at hc0 HW
    clear hq
    by_cases q1 : q = 1
    · subst q1
      have HW1 : Hid (wordyB (l.getD i (0, 0)) = true) := Lib.hid (by rw [HW.out]; rfl)
      go_wp2_with fail
      exact ⟨⟨i + 1, hlt, by go_num, hb, Lib.hid ⟨HR.out.1, HR.out.2.1, fun j hj => by
        by_cases e : j = i
        · rw [e]; exact HW1.out
        · exact HR.out.2.2 j (by omega)⟩⟩, by simp [intOf]; omega⟩
    have q1' : ((q : Int) != 1) = true := by simp; omega
    by_cases q2 : q = 2
    · subst q2
      have HW1 : Hid (wordyB (l.getD i (0, 0)) = true) := Lib.hid (by rw [HW.out]; rfl)
      go_wp2_with fail
      exact ⟨⟨i + 1, hlt, by go_num, hb, Lib.hid ⟨HR.out.1, HR.out.2.1, fun j hj => by
        by_cases e : j = i
        · rw [e]; exact HW1.out
        · exact HR.out.2.2 j (by omega)⟩⟩, by simp [intOf]; omega⟩
    have q2' : ((q : Int) != 2) = true := by simp; omega
    have HW0 : Hid (oddL l = true) := Lib.hid (HOD.out (by rw [HW.out, decide_eq_false q1, decide_eq_false q2]; rfl))
    clear HW HOD HR
    go_wp2_with fail
    go_ret
    exact ⟨by rw [H.out, HW0.out]; simp [mayN], hb⟩
theorem mayR_any (o : Ob) (a : Option Addr) (n c : Nat) (w : World) (hl : Sl w 2 (.slice a n c) n (wcells o.l)) (hn9 : n ≤ 1048576) (X : Bool) (H : Hid (X = mayO o)) :
    Calls Try.prog 16 #[.agg #[.int .u8 (o.k.toNat : Int), .int .i64 o.t, .slice a n c, .string (str o.s)]] w fun e w' => e = .returned (.bool X) ∧ Below w.heap.size w w' :=
  mayR_p o.k.toNat o.t a n c o.l o.s w hl hn9 X (Lib.hid (by rw [H.out, mayO, hl.wordLen.1]))
end Go.Proofs.Ytekmgffjdheifaa
