/-
  SameImage, Image, New. Conditions: the slices read as images, the disk as one.
-/
import Derived.Test.YtchjfmgfoifbcaaDskH
import Derived.Test.YtchjfmgfoifbcaaDskC
namespace Go.Proofs.Ytchjfmgfoifbcaa
open Go.RowKit
set_option linter.unusedVariables false
set_option linter.unusedSimpArgs false
set_option maxRecDepth 100000

theorem take_succ_eq {L M : List (List UInt8)} {i : Nat} (hi : i < L.length) (hj : i < M.length) (h : L.take i = M.take i) (hx : L.getD i [] = M.getD i []) : L.take (i + 1) = M.take (i + 1) := by
  rw [List.take_succ_eq_append_getElem hi, List.take_succ_eq_append_getElem hj, h]
  simp [List.getD_eq_getElem?_getD, List.getElem?_eq_getElem hi, List.getElem?_eq_getElem hj] at hx
  rw [hx]
set_option maxHeartbeats 1000000 in
theorem sameImage_any (a : Option Addr) (n c : Nat) (L : List (List UInt8)) (a2 : Option Addr) (m c2 : Nat) (M : List (List UInt8)) (w : World) (hl : ImR w (.slice a n c) L) (hm : ImR w (.slice a2 m c2) M) (hn : n ≤ 1048576) (hL : ∀ l ∈ L, l.length ≤ 1048576) (hM : ∀ l ∈ M, l.length ≤ 1048576) (B : Bool) (hB : Hid (B = decide (L = M))) :
    Calls Try.prog 15 #[.slice a n c, .slice a2 m c2] w fun e w' => e = .returned (.bool B) ∧ Below w.heap.size w w' := by
  have HN := Lib.hid hl.len.1
  have HM := Lib.hid hm.len.1
  have HLL := Lib.hid hL
  have HML := Lib.hid hM
  clear hL hM
  by_cases hnm : n = m
  rotate_left
  · have hne : ((n : Int) != (m : Int)) = true := by simp; omega
    obtain rfl : B = false := hB.out.trans (decide_eq_false (fun e => hnm (by rw [← HN.out, ← HM.out, e])))
    clear hnm
    go_enter Try.func15, Try.ntmps15
    go_wp2_with fail
    go_ret
    exact ⟨rfl, Below.refl _ _⟩
  · subst hnm
    have hne : ((n : Int) != (n : Int)) = false := by simp
    go_enter Try.func15, Try.ntmps15
    go_wp2_with fail
    go_loopw [5] (fun v5 wr => ∃ i, i ≤ n ∧ v5 = .int .i64 (i : Nat) ∧ Hid (L.take i = M.take i) ∧ Below w.heap.size w wr) (fun v5 _ => n - (intOf v5).toNat)
    case atStart => exact ⟨0, Nat.zero_le _, rfl, Lib.hid (by simp), Below.refl _ _⟩
    case round =>
      obtain ⟨i, hi, rfl, HI, hb⟩ := hrel
      by_cases hin : i = n
      · subst hin
        have e1 : L = M := by
          have := HI.out
          rwa [List.take_of_length_le (by rw [HN.out]; exact Nat.le_refl _), List.take_of_length_le (by rw [HM.out]; exact Nat.le_refl _)] at this
        obtain rfl : B = true := hB.out.trans (decide_eq_true e1)
        clear e1
        go_wp2_with fail
        go_ret
        exact ⟨rfl, hb⟩
      · have hlt : i < n := by omega
        have hlt' : (i : Int) < n := by omega
        have HLi : Hid (i < L.length) := Lib.hid (by rw [HN.out]; exact hlt)
        have HMi : Hid (i < M.length) := Lib.hid (by rw [HM.out]; exact hlt)
        obtain ⟨g1, o1, av, cv, rfl, hc, hs⟩ := (hl.below hb).at i hlt
        obtain ⟨g2, o2, av2, cv2, rfl, hc2, hs2⟩ := (hm.below hb).at i hlt
        have hle := HLL.out _ (getD_mem HLi.out)
        have hle2 := HML.out _ (getD_mem HMi.out)
        have HT : Hid (L.getD i [] = M.getD i [] → L.take (i + 1) = M.take (i + 1)) := Lib.hid (take_succ_eq HLi.out HMi.out HI.out)
        have HF : Hid (¬ L.getD i [] = M.getD i [] → ¬ L = M) := Lib.hid (fun hx e => hx (by rw [e]))
        generalize L.getD i [] = l at hc hs hle HT HF
        generalize M.getD i [] = s at hc2 hs2 hle2 HT HF
        have q1 := later_cell hc
        have q2 := later_cell hc2
        go_wp2_with fail
        refine wp_region_idx Rb Rb_refl Rb_trans [(0,0),(0,1),(0,2),(0,3),(0,4),(0,5),(0,6),(0,7),(1,8),(0,9)] (by kernel_rfl) (by kernel_rfl) (by kernel_rfl) ?_
        simp only [pickO, List.getD_cons_succ, List.getD_cons_zero]
        refine wpCan_seg 8 (by kernel_rfl) ?_
        simp only [List.take_succ_cons, List.take_zero, List.drop_succ_cons, List.drop_zero, List.map_cons, List.map_nil]
        iterate 8 (go_big_quiet_step (fail))
        refine wpQuiet_nil ?_
        clear q1 q2
        refine wpCan_list (k := 0) (fun KK hK => ?_) (fun _ => Rb_refl _)
        go_wp2_with fail
        refine (eqb_any av l.length cv av2 s.length cv2 l s _ hs.drew hs2.drew (by omega) (by omega)).mono ?_
        rintro e w4 ⟨rfl, hb4⟩
        obtain ⟨Q, hQ⟩ : ∃ Q, Q = decide (l = s) := ⟨_, rfl⟩
        rw [← hQ]
        have HQ := Lib.hid hQ
        clear hQ
        go_wp2_with fail
        refine hK _ _ (fun _ => hb4) ?_
        clear hK KK
        have hB4 := hb.drew.trans (hb4.mono hb.size)
        cases Q with
        | true =>
          have hls := of_decide_eq_true HQ.out.symm
          have HT2 := Lib.hid (HT.out hls)
          clear hls HT HF HQ
          refine wpCan_seg 1 (by kernel_rfl) ?_
          simp only [List.take_succ_cons, List.take_zero, List.drop_succ_cons, List.drop_zero, List.map_cons, List.map_nil]
          iterate 1 (go_big_quiet_step (fail))
          refine wpQuiet_nil ?_
          unfold wpCan
          go_wp2_with fail
          exact ⟨⟨i + 1, hlt, by go_num, HT2, hB4⟩, by simp [intOf]; omega⟩
        | false =>
          have hls := of_decide_eq_false HQ.out.symm
          obtain rfl : B = false := hB.out.trans (decide_eq_false (HF.out hls))
          clear hls HT HF HQ
          refine wpCan_seg 1 (by kernel_rfl) ?_
          simp only [List.take_succ_cons, List.take_zero, List.drop_succ_cons, List.drop_zero, List.map_cons, List.map_nil]
          iterate 1 (go_big_quiet_step (fail))
          refine wpQuiet_nil ?_
          unfold wpCan
          go_wp2_with fail
          go_ret
          exact ⟨rfl, hB4⟩

theorem image_p (c : Nat) (col : Nat → Nat) (b : Nat) (D : Dk) (w : World) (h : DkAt 62 c col w b D) (hs : D.S.length ≤ 1048576) (hL : ∀ l ∈ D.S, l.length ≤ 1048576) :
    Calls Try.prog 16 #[.pointer (some ⟨b, 0, none⟩)] w fun e w' => ∃ v us, e = .returned v ∧ Imgs w' w.heap.size v D.S.length us D.S ∧ Below w.heap.size w w' := by
  obtain ⟨aS, cS, aP, cP, sv, pv, h⟩ := h
  have c0 : w.cell? ⟨b, 0, none⟩ = some (.slice aS D.S.length cS) := h.row.cell 0
  have H := Lib.hid h
  have HL := Lib.hid hL
  clear h hL
  generalize hn : D.S.length = n at c0 hs
  have HN := Lib.hid hn
  clear hn
  go_enter Try.func16, Try.ntmps16
  go_wp2_with fail
  have himr := H.out.imr
  rw [HN.out] at himr
  refine (clones_any aS n cS D.S w himr hs HL.out).mono ?_
  rintro e w2 ⟨v, us, rfl, hi, hb⟩
  go_wp2_with fail
  go_ret
  exact ⟨v, us, rfl, hi, hb⟩

/-! ### regions in which blocks below B stay -/
def RbL (B : Nat) (x y : World) : Prop := Below B x y
theorem RbL_refl (B : Nat) (w : World) : RbL B w w := Below.refl _ _
theorem RbL_trans (B : Nat) (x y z : World) (h : RbL B x y) (k : RbL B y z) : RbL B x z := Below.trans h k
instance laterRbL (B : Nat) (w : World) : Nonempty (Later (RbL B) w) := nonemptyLater (RbL_refl B) w
theorem laterL_cell {B : Nat} {w : World} {b o : Nat} {v : Value} (h : w.cell? ⟨b, o, none⟩ = some v) (hb : b < B) : ∀ x : Later (RbL B) w.drew, x.w.cell? ⟨b, o, none⟩ = some v :=
  fun x => (Below.cell (p := ⟨b, o, none⟩) x.later hb).trans h
/-! ### a new disk -/
def newcol (col : Nat → Nat) (base c : Nat) (b : Nat) (vS vP : Value) : Nat → Nat := fun g => if g < base then col g else if g = b ∨ vS.ownBlock = some g ∨ vP.ownBlock = some g then c else 0
theorem newcol_lt {col : Nat → Nat} {base c b g : Nat} {vS vP : Value} (h : g < base) : newcol col base c b vS vP g = col g := if_pos h
theorem newcol_yes {col : Nat → Nat} {base c b g : Nat} {vS vP : Value} (h : base ≤ g) (hp : g = b ∨ vS.ownBlock = some g ∨ vP.ownBlock = some g) : newcol col base c b vS vP g = c := by
  unfold newcol; rw [if_neg (by omega), if_pos hp]
theorem newcol_no {col : Nat → Nat} {base c b g : Nat} {vS vP : Value} (h : base ≤ g) (hp : ¬ (g = b ∨ vS.ownBlock = some g ∨ vP.ownBlock = some g)) : newcol col base c b vS vP g = 0 := by
  unfold newcol; rw [if_neg (by omega), if_neg hp]
theorem Owns.imms {col : Nat → Nat} {w : World} {base : Nat} {vs : List Value} {L : List (List UInt8)} (h : Owns w base vs L) (hc : ∀ u ∈ vs, ∀ g, u.ownBlock = some g → col g = 0) : Imms col w vs L := by
  induction h with
  | nil => exact .nil
  | @cons v l vs L h1 _ ih => exact .cons ⟨h1.sl, fun _ g hg => hc v (List.mem_cons_self ..) g hg⟩ (ih fun u hu => hc u (List.mem_cons_of_mem _ hu))
/-- what makes a disk: a pointer to it, in new memory -/
def MadeNew (e : TypeId) (c : Nat) (col : Nat → Nat) (w : World) (b : Nat) (D : Dk) (w' : World) : Prop := ∃ col', St (fun _ => False) col w col' w' ∧ DkAt e c col' w' b D
theorem madeNew {e : TypeId} {c : Nat} {col : Nat → Nat} {w w' : World} {b : Nat} {S : List (List UInt8)} {dead : Bool} {armed steps : Int} {aS : Option Addr} {n cS : Nat} {us : List Value} (hb : Below w.heap.size w w') (hc : c ≠ 0) (hn : n = S.length)
    (hr : Row w' b e [.slice aS n cS, .slice none 0 0, .bool dead, .int .i64 armed, .int .i64 steps]) (hbb : w.heap.size ≤ b) (hi : Imgs w' w.heap.size (.slice aS n cS) n us S) (hsb : (Value.slice aS n cS).ownBlock ≠ some b) (hub : ∀ u ∈ us, u.ownBlock ≠ some b) :
    MadeNew e c col w b ⟨S, [], dead, armed, steps⟩ w' := by
  subst hn
  refine ⟨newcol col w.heap.size c b (.slice aS S.length cS) (.slice none 0 0), ⟨Mods.fresh hb _, fun g hg => newcol_lt hg⟩, aS, cS, none, 0, us, [], hr, hc, newcol_yes hbb (.inl rfl), ⟨hi.own.mono (Nat.zero_le _), fun g hg => newcol_yes (hi.own.lt g hg) (.inr (.inl hg))⟩, hi.ins.imms fun u hu g hg => ?_, OwnC.nil _ _ _ _, .nil, hsb, by simp [Value.ownBlock], fun g _ e => by simp [Value.ownBlock] at e⟩
  refine newcol_no (hi.ins.lives u hu g hg).1 ?_
  rintro (h1 | h1 | h1)
  · exact hub u hu (by rw [hg, h1])
  · exact hi.sep u hu g hg h1
  · simp [Value.ownBlock] at h1
theorem right_any (n : Int) (w : World) (B : Bool) (H : Hid (B = (decide (16 ≤ n) && decide (n ≤ 4096)))) : Calls Try.prog 26 #[.int .i64 n] w fun e w' => e = .returned (.bool B) ∧ w = w' := by
  by_cases h0 : 16 ≤ n
  · by_cases h1 : n ≤ 4096
    · obtain rfl : B = true := H.out.trans (by rw [decide_eq_true h0, decide_eq_true h1]; rfl)
      go_enter Try.func26, Try.ntmps26
      go_wp2_with fail
      go_ret
      exact ⟨rfl, rfl⟩
    · obtain rfl : B = false := H.out.trans (by rw [decide_eq_false h1, Bool.and_false])
      go_enter Try.func26, Try.ntmps26
      go_wp2_with fail
      go_ret
      exact ⟨rfl, rfl⟩
  · obtain rfl : B = false := H.out.trans (by rw [decide_eq_false h0]; rfl)
    go_enter Try.func26, Try.ntmps26
    go_wp2_with fail
    go_ret
    exact ⟨rfl, rfl⟩
theorem blank_any (w : World) : Calls Try.prog 27 #[] w fun e w' => ∃ g off, e = .returned (.slice (some ⟨g, off, none⟩) 256 256) ∧ Own w' w.heap.size 1 (.slice (some ⟨g, off, none⟩) 256 256) 256 (bvs (List.replicate 256 0)) ∧ Below w.heap.size w w' := by
  go_enter Try.func27, Try.ntmps27
  go_wp2_with (first | (at_make; refine wpL_make etB rfl rfl _ _ rfl 256 w.heap.size rfl rfl rfl rfl (by omega) (by simp [maxLen]) (Nat.le_refl _) ?_; rintro v2 w2 hown hb ⟨g, off, rfl, hg⟩; have HO := Lib.hid hown; have HB := Lib.hid hb; clear hown hb hg))
  go_ret
  refine ⟨g, off, rfl, ?_, HB.out⟩
  have := HO.out
  rwa [bvs_replicate] at this
end Go.Proofs.Ytchjfmgfoifbcaa
