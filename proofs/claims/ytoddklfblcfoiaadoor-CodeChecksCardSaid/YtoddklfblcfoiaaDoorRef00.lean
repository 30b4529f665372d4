/-
  What the statements do with bytes: EqBytes, CopyBytes, tail, Roomy, Kept. Conditions: slices read as bytes.
-/
import Derived.Test.YtoddklfblcfoiaaDoorB
import Derived.Lib.SlBytesConst
namespace Go.Proofs.YtoddklfblcfoiaaDoor
open Go.RowKit
set_option linter.unusedVariables false
set_option linter.unusedSimpArgs false

theorem ret_bool {a b : Bool} (h : a = b) : Ending.returned (.bool a) = .returned (.bool b) := by rw [h]
theorem cut_one (x : UInt8) (l : List UInt8) (k : Nat) (h : k = l.length) : ((bvs (x :: l)).drop 1).take (k + 1 - 1) = bvs l := by
  subst h; simp [bvs, List.take_of_length_le]
theorem Sl.tail1 {w : World} {b o k C : Nat} {x : UInt8} {l : List UInt8} (h : Sl w 1 (.slice (some ⟨b, o, none⟩) (k + 1) C) (k + 1) (bvs (x :: l))) : Sl w 1 (.slice (if C = 1 then some ⟨b, o, none⟩ else some ⟨b, o + 1, none⟩) k (C - 1)) k (bvs l) := by
  have hn := h.len
  simp only [List.length_cons] at hn
  have h1 := h.cut (l := 1) (h := k + 1) (m := C) (by omega) (by omega) (by omega) (Nat.le_refl _)
  rw [cut_one x l k (by omega), Nat.add_sub_cancel] at h1
  unfold cutAddr at h1
  rw [Option.map_some, add_eq] at h1
  exact h1
set_option maxHeartbeats 1000000 in
theorem eqb_any (a : Option Addr) (n c : Nat) (a2 : Option Addr) (m c2 : Nat) (l s : List UInt8) (w : World) (hl : Sl w 1 (.slice a n c) n (bvs l)) (hs : Sl w 1 (.slice a2 m c2) m (bvs s)) (hsz : n ≤ 140737488355328) (hsz2 : m ≤ 140737488355328) :
    Calls Tryd.prog 16 #[.slice a n c, .slice a2 m c2] w fun e w' => e = .returned (.bool (decide (l = s))) ∧ Below w.heap.size w w' := by
  obtain ⟨R, hR⟩ : ∃ R, R = decide (l = s) := ⟨_, rfl⟩
  rw [← hR]
  have HR := Lib.hid hR
  clear hR
  go_enter Tryd.func16, Tryd.ntmps16
  go_wp2_with fail
  go_loopw [0, 1] (fun v0 v1 wr => ∃ A n' C B m' D, ∃ l' s' : List UInt8, v0 = .slice A n' C ∧ v1 = .slice B m' D ∧ Sl wr 1 (.slice A n' C) n' (bvs l') ∧ Sl wr 1 (.slice B m' D) m' (bvs s') ∧ R = decide (l' = s') ∧ n' ≤ n ∧ m' ≤ m ∧ Below w.heap.size w wr) (fun v0 _ _ => match v0 with | .slice _ k _ => k | _ => 0)
  case atStart => exact ⟨a, n, c, a2, m, c2, l, s, rfl, rfl, hl, hs, HR.out, Nat.le_refl _, Nat.le_refl _, Below.refl _ _⟩
  case round =>
    obtain ⟨A, n', C, B, m', D, l', s', rfl, rfl, hl', hs', hR', hn', hm', hb⟩ := hrel
    have h1 := hl'.len
    have h2 := hs'.len
    have HR' := Lib.hid hR'
    clear hR' hl hs
    rcases l' with _ | ⟨x, l'⟩
    · obtain rfl : n' = 0 := by simpa using h1.1.symm
      clear h1
      have HL := Lib.hid h2
      clear h2
      go_wp2_with fail
      go_quiet (fail)
      go_wp2_with fail
      go_ret
      refine ⟨ret_bool ?_, below_drewN hb _⟩
      have h2 := HL.out.1
      rw [HR'.out, Bool.eq_iff_iff]
      cases s' <;> simp at h2 ⊢ <;> omega
    · obtain ⟨k, rfl⟩ : ∃ k, n' = k + 1 := ⟨l'.length, by simpa using h1.1.symm⟩
      rcases s' with _ | ⟨y, s'⟩
      · obtain rfl : m' = 0 := by simpa using h2.1.symm
        have hk : (0 : Int) < (k : Int) + 1 := by omega
        clear h1 h2
        go_wp2_with fail
        go_quiet (fail)
        go_wp2_with fail
        go_ret
        exact ⟨ret_bool (by rw [HR'.out]; simp; omega), below_drewN hb _⟩
      · obtain ⟨j, rfl⟩ : ∃ j, m' = j + 1 := ⟨s'.length, by simpa using h2.1.symm⟩
        have hk : (0 : Int) < (k : Int) + 1 := by omega
        have hj : (0 : Int) < (j : Int) + 1 := by omega
        obtain ⟨b1, o1, rfl, hc1⟩ := hl'.byte (k := 0) (by omega)
        obtain ⟨b2, o2, rfl, hc2⟩ := hs'.byte (k := 0) (by omega)
        simp only [Nat.add_zero, List.getD_cons_zero] at hc1 hc2
        have hC := h1.2.2.1
        have hD := h2.2.2.1
        have hC2 := h1.2.2.2
        have hD2 := h2.2.2.2
        clear h1 h2
        obtain ⟨X, hX⟩ : ∃ X : Nat, X = x.toNat := ⟨_, rfl⟩
        obtain ⟨Y, hY⟩ : ∃ Y : Nat, Y = y.toNat := ⟨_, rfl⟩
        rw [← hX] at hc1
        rw [← hY] at hc2
        have HX := Lib.hid hX
        have HY := Lib.hid hY
        clear hX hY
        by_cases hxy : X = Y
        · subst hxy
          go_wp2_with fail
          go_quiet (fail)
          go_wp2_with fail
          have e : R = decide (l' = s') := by
            have : x = y := UInt8.toNat_inj.1 (by rw [← HX.out, ← HY.out])
            rw [HR'.out, this]; simp
          exact ⟨⟨_, _, _, _, _, _, l', s', rfl, rfl, hl'.tail1, hs'.tail1, e, by omega, by omega, below_drewN hb _⟩, by simp⟩
        · have hne : ((X : Int) == Y) = false := by rw [beq_eq_false_iff_ne]; omega
          go_wp2_with fail
          go_quiet (fail)
          go_wp2_with fail
          go_ret
          refine ⟨ret_bool ?_, below_drewN hb _⟩
          have : ¬ (x :: l' = y :: s') := fun h => hxy (by rw [HX.out, HY.out]; cases h; rfl)
          rw [HR'.out, decide_eq_false this]
          simp; omega
theorem copyb_any (a : Option Addr) (n c : Nat) (l : List UInt8) (w : World) (hl : Sl w 1 (.slice a n c) n (bvs l)) :
    Calls Tryd.prog 29 #[.slice a n c] w fun e w' => ∃ v, e = .returned v ∧ Own w' w.heap.size 1 v n (bvs l) ∧ Below w.heap.size w w' := by
  have hn := hl.len
  have HN := Lib.hid hn.1
  have hm : l.length ≤ maxLen := by simp [maxLen]; omega
  clear hn
  go_enter Tryd.func29, Tryd.ntmps29
  go_wp2_with (first | (refine wpL_toString rfl 26 9 (.tmp 3) rfl Tryd.underlying26 Tryd.underlying5 Tryd.underlying9 hl rfl ?_) | (refine wpL_ofString rfl 9 26 (.tmp 4) rfl Tryd.underlying9 Tryd.underlying26 Tryd.underlying5 l rfl w.heap.size (Nat.le_refl _) hm ?_; intro v2 w2 ho2 hb2; have HO := Lib.hid ho2; clear ho2))
  go_ret
  rw [← HN.out]
  exact ⟨_, rfl, HO.out, hb2⟩
def tailL : List UInt8 := [98, 101, 104, 105, 110, 100]
theorem tail_any (w : World) : Calls Tryd.prog 30 #[] w fun e w' => ∃ b, e = .returned (.slice (some ⟨b, 0, none⟩) 6 6) ∧ Sl w' 1 (.slice (some ⟨b, 0, none⟩) 6 6) 6 (bvs tailL) ∧ Below w.heap.size w w' := by
  have kc := fun (w : World) (C : Array Value) (n c : Nat) => Lib.run_convert_bytes_const (P := Tryd.prog) w 26 5 C n c Tryd.underlying26 Tryd.underlying5
  go_enter Tryd.func30, Tryd.ntmps30
  go_wp2_with fail
  go_ret
  exact ⟨_, rfl, Sl.litF w (bvs tailL) 5 _ 6 rfl (by decide), (Below.refl _ _).alloc (Nat.le_refl _) _⟩
set_option maxHeartbeats 400000 in
theorem roomy_any (a : Option Addr) (n c : Nat) (l : List UInt8) (w : World) (hl : Sl w 1 (.slice a n c) n (bvs l)) (hsz : n ≤ 1073741824) :
    Calls Tryd.prog 13 #[.slice a n c] w fun e w' => ∃ g off, e = .returned (.slice (some ⟨g, off, none⟩) n (n + 6)) ∧ Own w' w.heap.size 1 (.slice (some ⟨g, off, none⟩) (n + 6) (n + 6)) (n + 6) (bvs (l ++ tailL)) ∧ Below w.heap.size w w' := by
  go_enter Tryd.func13, Tryd.ntmps13
  go_wp2_with fail
  refine (copyb_any a n c l w hl).mono ?_
  rintro e w1 ⟨v1, rfl, ho, hb⟩
  obtain ⟨a1, c1, rfl⟩ := ho.form
  go_wp2_with fail
  refine (tail_any w1).mono ?_
  rintro e w2 ⟨b2, rfl, hs2, hb2⟩
  have ho2 := ho.below hb2
  have hB := hb.trans (hb2.mono hb.size)
  go_wp2_with (at_builtin; refine wpL_append etB rfl _ _ rfl ho2 rfl hs2 rfl (bvs_one _) (by omega) (by simp [maxLen]; omega) hB.size ?_; intro v3 w3 ho3 hg3; have hB3 := below_own hB ho2 hg3 (Nat.le_refl _) hB.size; obtain ⟨g, off, cap, rfl, h1, h2, h3, h4, h5⟩ := ho3.open (by omega) (by decide); clear h5 hg3)
  go_ret
  rw [← bvs_append] at ho3
  exact ⟨g, off, rfl, ho3.shrink (Nat.le_refl _) h3, hB3⟩
set_option maxHeartbeats 1000000 in
theorem kept_any (g off : Nat) (a : Option Addr) (n c : Nat) (l : List UInt8) (w : World) (hi : Sl w 1 (.slice (some ⟨g, off, none⟩) (n + 6) (n + 6)) (n + 6) (bvs (l ++ tailL))) (hl : Sl w 1 (.slice a n c) n (bvs l)) (hsz : n ≤ 1073741824) :
    Calls Tryd.prog 19 #[.slice (some ⟨g, off, none⟩) n (n + 6), .slice a n c] w fun e w' => e = .returned (.bool true) ∧ Below w.heap.size w w' := by
  have hn := hl.len
  have HN := Lib.hid hn.1
  clear hn
  have hf : Sl w 1 (.slice (some ⟨g, off, none⟩) n (n + 6)) n (bvs l) := by
    have h := hi.front (m := n) (by omega)
    rw [Nat.mul_one, bvs_take, ← HN.out, List.take_left, HN.out] at h
    exact h
  have ht : Sl w 1 (.slice (if n + 6 = n then some ⟨g, off, none⟩ else some ⟨g, off + n, none⟩) 6 6) 6 (bvs tailL) := by
    have h := hi.cut (l := n) (h := n + 6) (m := n + 6) (by omega) (by omega) (by omega) (by omega)
    rw [bvs_drop, ← HN.out, List.drop_left, HN.out, show n + 6 - n = 6 by omega] at h
    unfold cutAddr at h
    rw [Option.map_some, add_eq, if_neg (by omega)] at h
    rw [if_neg (by omega)]
    exact h
  rw [if_neg (by omega)] at ht
  clear hi
  go_enter Tryd.func19, Tryd.ntmps19
  go_wp2_with fail
  refine (tail_any w).mono ?_
  rintro e w1 ⟨b1, rfl, _, hb⟩
  replace hf := hf.below hb
  replace ht := ht.below hb
  replace hl := hl.below hb
  go_wp2_with fail
  refine wp_region_lex Rb Rb_refl Rb_trans [0,0,1,0,0,0,0,0,0,0,0,0,0,0,0,1,1,0,0] (by kernel_rfl) (by kernel_rfl) ?_
  refine wpCan_seg 2 (by kernel_rfl) ?_
  simp only [List.zip_cons_cons, List.zip_nil_left, List.take_succ_cons, List.take_zero, List.drop_succ_cons, List.drop_zero, List.map_cons, List.map_nil]
  iterate 2 (go_big_quiet_step (fail))
  refine wpQuiet_nil ?_
  refine wpCan_list (k := 0) (fun K hK => ?_) (fun _ => Rb_refl _)
  go_wp2_with fail
  refine (eqb_any (some ⟨g, off, none⟩) n (n + 6) a n c l l _ hf.drew hl.drew (by omega) (by omega)).mono ?_
  rintro e w2 ⟨rfl, hb2⟩
  rw [decide_eq_true rfl]
  go_wp2_with fail
  refine hK _ _ (fun _ => hb2) ?_
  clear hK K
  replace hb := hb.drew.trans (hb2.mono hb.size)
  replace ht := ht.drew.below hb2
  refine wpCan_seg 12 (by kernel_rfl) ?_
  simp only [List.zip_cons_cons, List.zip_nil_left, List.take_succ_cons, List.take_zero, List.drop_succ_cons, List.drop_zero, List.map_cons, List.map_nil]
  iterate 12 (go_big_quiet_step (fail))
  refine wpQuiet_nil ?_
  refine wpCan_list (k := 0) (fun K hK => ?_) (fun _ => Rb_refl _)
  go_wp2_with fail
  refine (tail_any w2).mono ?_
  rintro e w3 ⟨b3, rfl, hs3, hb3⟩
  go_wp2_with fail
  refine hK _ _ (fun _ => hb3) ?_
  clear hK K
  replace hb := hb.trans (hb3.mono hb.size)
  replace ht := ht.below hb3
  refine wpCan_list (k := 0) (fun K hK => ?_) (fun _ => Rb_refl _)
  go_wp2_with fail
  refine (eqb_any _ 6 6 _ 6 6 tailL tailL _ ht hs3 (by omega) (by omega)).mono ?_
  rintro e w4 ⟨rfl, hb4⟩
  rw [decide_eq_true rfl]
  go_wp2_with fail
  refine hK _ _ (fun _ => hb4) ?_
  clear hK K
  refine wpCan_seg 2 (by kernel_rfl) ?_
  simp only [List.zip_cons_cons, List.zip_nil_left, List.take_succ_cons, List.take_zero, List.drop_succ_cons, List.drop_zero, List.map_cons, List.map_nil]
  iterate 2 (go_big_quiet_step (fail))
  refine wpQuiet_nil ?_
  unfold wpCan
  go_wp2_with fail
  go_ret
  exact ⟨rfl, hb.trans (hb4.mono hb.size)⟩
end Go.Proofs.YtoddklfblcfoiaaDoor
