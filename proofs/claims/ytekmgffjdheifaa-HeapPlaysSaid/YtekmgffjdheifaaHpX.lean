/-
  Law 24's anchor, walked. No condition.
-/
import Derived.Test.YtekmgffjdheifaaHpW
namespace Go.Proofs.Ytekmgffjdheifaa
open Go Go.RowKit
set_option linter.unusedVariables false
set_option linter.unusedSimpArgs false
set_option maxRecDepth 100000

def ex1 : Ob := ⟨5, 0, [], [97, 98]⟩
def ex2 : Ob := ⟨3, 0, [(2, 1)], []⟩
def ex3 : Ob := ⟨8, 5, [], []⟩
def exA : List Th := newH ++ [newTh ex1]
def exB : List Th := exA ++ [newTh ex2]
def exC : List Th := exB ++ [newTh ex3]
def exD : List Th := putTh exC 2 (tieTh (newTh ex2) 6)
def exE : List Th := putTh exD 2 (setTh (tieTh (newTh ex2) 6) 0 (1, 7))
def exF : List Th := [noTh, noTh, setTh (tieTh (newTh ex2) 6) 0 (1, 7), noTh]
theorem exA_is : allocH newH 10 ex1 = exA ∧ allocN newH 10 ex1 = 1 ∧ allocE newH 10 ex1 = 0 := ⟨rfl, rfl, rfl⟩
theorem exB_is : allocH exA 10 ex2 = exB ∧ allocN exA 10 ex2 = 2 ∧ allocE exA 10 ex2 = 0 := ⟨rfl, rfl, rfl⟩
theorem exC_is : allocH exB 10 ex3 = exC ∧ allocN exB 10 ex3 = 3 ∧ allocE exB 10 ex3 = 0 := ⟨rfl, rfl, rfl⟩
theorem exC_tie : tieH exC 2 5 = exC ∧ tieE exC 2 5 = 3 := ⟨rfl, rfl⟩
theorem exD_is : tieH exC 2 6 = exD ∧ tieE exC 2 6 = 0 := ⟨rfl, rfl⟩
theorem exE_is : setH exD 2 0 (1, 7) = exE ∧ setIs exD 2 0 (1, 7) = true := ⟨rfl, rfl⟩
theorem exE_dirty : dirtyL exE = [2] := rfl
theorem exC_used : usedH exC = 5 := rfl
theorem exF_count : countH exF = 1 ∧ countH exE = 3 := ⟨rfl, rfl⟩
theorem exF_word : wordIs exF 2 0 = true ∧ wordAt exF 2 0 = (1, 7) := ⟨rfl, rfl⟩
theorem exE_live (k : Int) : Live exE ([] ++ dirtyL exE) k ↔ k = 2 := by
  rw [exE_dirty]
  constructor
  · intro h
    induction h with
    | root h _ => simpa using h
    | step _ h1 _ ih =>
      subst ih
      have : (thAt exE 2).o.l = [(1, 7)] := rfl
      rw [this] at h1
      simp at h1
  · rintro rfl
    exact .root (by simp) rfl
theorem exF_is : collectH exE [] = exF := by
  classical
  refine heap_ext (by rw [collectH_len]; rfl) fun k => ?_
  rw [collectH_at]
  by_cases h : k = 2
  · rw [if_pos ((exE_live k).2 h), h]
    rfl
  · rw [if_neg (fun e => h ((exE_live k).1 e))]
    rcases Int.lt_or_le k 0 with hk | hk
    · rw [thAt_neg hk]
    rcases Int.lt_or_le k 4 with hl | hl
    · have : k = 0 ∨ k = 1 ∨ k = 3 := by omega
      rcases this with rfl | rfl | rfl <;> rfl
    · rw [thAt_ge (show ((exF.length : Nat) : Int) ≤ k from hl)]
theorem exA_good : Good exA 10 := by have := alloc_keep (newH_good 10) ex1; rwa [exA_is.1] at this
theorem exB_good : Good exB 10 := by have := alloc_keep exA_good ex2; rwa [exB_is.1] at this
theorem exC_good : Good exC 10 := by have := alloc_keep exB_good ex3; rwa [exC_is.1] at this
theorem exD_good : Good exD 10 := by have := tie_keep exC_good 2 6; rwa [exD_is.1] at this
theorem exE_good : Good exE 10 := by have := set_keep exD_good 2 0 (1, 7); rwa [exE_is.1] at this
theorem exF_good : Good exF 10 := by have := collect_keep exE_good []; rwa [exF_is] at this
theorem exE_wf : WfH exE := by
  have h1 : WfH exA := fun j y hy => by unfold exA at hy; rw [thAt_snoc] at hy; split at hy; cases hy; exact newH_wf j y hy
  have h2 : WfH exB := fun j y hy => by
    unfold exB at hy
    rw [thAt_snoc] at hy
    split at hy
    · have : y = (2, 1) := by simpa [newTh, ex2] using hy
      rw [this]; decide
    · exact h1 j y hy
  have h3 : WfH exC := fun j y hy => by unfold exC at hy; rw [thAt_snoc] at hy; split at hy; cases hy; exact h2 j y hy
  have h4 : WfH exD := wf_put h3 (fun y hy => by
    have : y = (2, 1) := by simpa [tieTh, newTh, ex2] using hy
    rw [this]; decide)
  exact wf_put h4 (fun y hy => by
    have : y = (1, 7) := by simpa [setTh, tieTh, newTh, ex2] using hy
    rw [this]; decide)
section
variable {col : Nat → Nat} {w : World} {b : Nat}
def Ex (H : List Th) (col : Nat → Nat) (w : World) (b : Nat) : Prop := HpAt col w b 10 H
def ExP (H : List Th) (v : Value) (col : Nat → Nat) (w : World) (b : Nat) (e : Ending) (w' : World) : Prop := e = .returned v ∧ ∃ col', Hid (St HQ col w col' w' ∧ Ex H col' w' b)
theorem wk_a1 (h : Ex newH col w b) : Calls Try.prog 13 #[.pointer (some ⟨b, 0, none⟩), .agg #[.int .u8 5, .int .i64 0, .slice none 0 0, .string ⟨#[97, 98]⟩]] w (ExP exA (.tuple #[.int .i64 1, .int .i64 0]) col w b) := by
  obtain ⟨bm, bt, ks, at_, ts, tf, h⟩ := h
  have := alloc_p h (newH_good 10) (by decide) (by decide) ex1 none 0 0 rfl (by decide) (by decide) (Sl.nil w 2) (by decide)
  refine Calls.mono this ?_
  rintro e w' ⟨N, E, rfl, HX⟩
  obtain ⟨rfl, rfl, col', h1, h2⟩ := HX.out
  rw [exA_is.1] at h2
  exact ⟨by rw [exA_is.2.1, exA_is.2.2], col', Lib.hid ⟨h1, h2⟩⟩
theorem wk_a2 (h : Ex exA col w b) (g : Nat) (hs : Sl w 2 (.slice (some ⟨g, 0, none⟩) 1 1) 1 [.int .u8 2, .int .i64 1]) : Calls Try.prog 13 #[.pointer (some ⟨b, 0, none⟩), .agg #[.int .u8 3, .int .i64 0, .slice (some ⟨g, 0, none⟩) 1 1, .string ⟨#[]⟩]] w (ExP exB (.tuple #[.int .i64 2, .int .i64 0]) col w b) := by
  obtain ⟨bm, bt, ks, at_, ts, tf, h⟩ := h
  have := alloc_p h exA_good (by decide) (by decide) ex2 (some ⟨g, 0, none⟩) 1 1 rfl (by decide) (by decide) hs (by decide)
  refine Calls.mono this ?_
  rintro e w' ⟨N, E, rfl, HX⟩
  obtain ⟨rfl, rfl, col', h1, h2⟩ := HX.out
  rw [exB_is.1] at h2
  exact ⟨by rw [exB_is.2.1, exB_is.2.2], col', Lib.hid ⟨h1, h2⟩⟩
theorem wk_a3 (h : Ex exB col w b) : Calls Try.prog 13 #[.pointer (some ⟨b, 0, none⟩), .agg #[.int .u8 8, .int .i64 5, .slice none 0 0, .string ⟨#[]⟩]] w (ExP exC (.tuple #[.int .i64 3, .int .i64 0]) col w b) := by
  obtain ⟨bm, bt, ks, at_, ts, tf, h⟩ := h
  have := alloc_p h exB_good (by decide) (by decide) ex3 none 0 0 rfl (by decide) (by decide) (Sl.nil w 2) (by decide)
  refine Calls.mono this ?_
  rintro e w' ⟨N, E, rfl, HX⟩
  obtain ⟨rfl, rfl, col', h1, h2⟩ := HX.out
  rw [exC_is.1] at h2
  exact ⟨by rw [exC_is.2.1, exC_is.2.2], col', Lib.hid ⟨h1, h2⟩⟩
theorem wk_used (h : Ex exC col w b) : Calls Try.prog 18 #[.pointer (some ⟨b, 0, none⟩)] w fun e w' => e = .returned (.int .i64 5) ∧ w = w' := by
  obtain ⟨bm, bt, ks, at_, ts, tf, h⟩ := h
  have := used_p h
  rw [exC_used] at this
  exact this
theorem wk_t1 (h : Ex exC col w b) : Calls Try.prog 43 #[.pointer (some ⟨b, 0, none⟩), .int .i64 2, .int .i64 5] w (ExP exC (.int .i64 3) col w b) := by
  obtain ⟨bm, bt, ks, at_, ts, tf, h⟩ := h
  refine (tie_p h exC_good 2 5 (by decide) (by decide) 3 (Lib.hid exC_tie.2.symm) exC (Lib.hid exC_tie.1.symm)).mono ?_
  rintro e w' ⟨rfl, col', h1, h2⟩
  exact ⟨rfl, col', Lib.hid ⟨h1, h2⟩⟩
theorem wk_t2 (h : Ex exC col w b) : Calls Try.prog 43 #[.pointer (some ⟨b, 0, none⟩), .int .i64 2, .int .i64 6] w (ExP exD (.int .i64 0) col w b) := by
  obtain ⟨bm, bt, ks, at_, ts, tf, h⟩ := h
  refine (tie_p h exC_good 2 6 (by decide) (by decide) 0 (Lib.hid exD_is.2.symm) exD (Lib.hid exD_is.1.symm)).mono ?_
  rintro e w' ⟨rfl, col', h1, h2⟩
  exact ⟨rfl, col', Lib.hid ⟨h1, h2⟩⟩
theorem wk_set (h : Ex exD col w b) : Calls Try.prog 23 #[.pointer (some ⟨b, 0, none⟩), .int .i64 2, .int .i64 0, .agg #[.int .u8 1, .int .i64 7]] w (ExP exE (.bool true) col w b) := by
  obtain ⟨bm, bt, ks, at_, ts, tf, h⟩ := h
  refine (setWord_p h exD_good 2 0 (1, 7) (by decide) true (Lib.hid exE_is.2.symm) exE (Lib.hid exE_is.1.symm)).mono ?_
  rintro e w' ⟨rfl, col', h1, h2⟩
  exact ⟨rfl, col', Lib.hid ⟨h1, h2⟩⟩
theorem wk_dirty (h : Ex exE col w b) : Calls Try.prog 22 #[.pointer (some ⟨b, 0, none⟩)] w fun e w' => ∃ a c, e = .returned (.slice a 1 c) ∧ Own w' w.heap.size 1 (.slice a 1 c) 1 (ints [2]) ∧ Below w.heap.size w w' := by
  obtain ⟨bm, bt, ks, at_, ts, tf, h⟩ := h
  exact dirty_p h exE_good (by decide) [2] (Lib.hid exE_dirty.symm) 1 (Lib.hid rfl)
theorem wk_coll (h : Ex exE col w b) : Calls Try.prog 29 #[.pointer (some ⟨b, 0, none⟩), .slice none 0 0] w (ExP exF (.int .i64 2) col w b) := by
  obtain ⟨bm, bt, ks, at_, ts, tf, h⟩ := h
  refine (collect_p h exE_good (by decide) (by decide) exE_wf [] none 0 0 (Sl.nil w 1) (by simp) (by decide) exF (Lib.hid exF_is.symm) 2 (Lib.hid (by rw [exF_count.1, exF_count.2]; rfl))).mono ?_
  rintro e w' ⟨rfl, col', h1, h2⟩
  exact ⟨rfl, col', Lib.hid ⟨h1, h2⟩⟩
theorem wk_word (h : Ex exF col w b) : Calls Try.prog 44 #[.pointer (some ⟨b, 0, none⟩), .int .i64 2, .int .i64 0] w fun e w' => e = .returned (.tuple #[.agg #[.int .u8 1, .int .i64 7], .bool true]) ∧ Below w.heap.size w w' := by
  obtain ⟨bm, bt, ks, at_, ts, tf, h⟩ := h
  exact word_p h exF_good 2 0 (by decide) true (Lib.hid exF_word.1.symm) (1, 7) (Lib.hid exF_word.2.symm)
theorem wk_count (h : Ex exF col w b) : Calls Try.prog 28 #[.pointer (some ⟨b, 0, none⟩)] w fun e w' => e = .returned (.int .i64 1) ∧ w = w' := by
  obtain ⟨bm, bt, ks, at_, ts, tf, h⟩ := h
  have := count_p h
  rw [exF_count.1] at this
  exact this
end
theorem St.down {C : Nat → Prop} {col col1 : Nat → Nat} {w w1 w2 : World} (h : St C col w col1 w1) (hb : Below w1.heap.size w1 w2) : St C col w col1 w2 := h.trans (St.fresh hb C col1)
theorem hq_nz : ∀ x, HQ x → NZ x := fun x h => by rcases h with h | h <;> (show x ≠ 0; omega)
theorem new24 (m : Nat) (w : World) (h : 1 ≤ m ∧ m ≤ 16777216) : Calls Try.prog 12 #[.int .i64 (m : Nat)] w fun e w' => ∃ b, e = .returned (.tuple #[.pointer (some ⟨b, 0, none⟩), .int .i64 0]) ∧ ∃ col, Hid (St NZ col0 w col w' ∧ HpAt col w' b m newH) := by
  refine (new_yes m col0 w h).mono ?_
  rintro e w' ⟨b, rfl, H⟩
  exact ⟨b, rfl, _, Lib.hid ⟨St.new H.out.2.2 _ _ _, H.out.2.1⟩⟩
set_option maxHeartbeats 8000000 in
theorem works_any (w : World) : Calls Try.prog 11 #[] w fun e w' => e = .returned (.bool true) ∧ Below w.heap.size w w' := by
  go_enter Try.func11, Try.ntmps11
  go_wp2_with fail
  refine (new24 10 w (by decide)).mono ?_
  rintro e w1 ⟨b, rfl, col1, H1⟩
  have K1 := Lib.hid H1.out.1
  have E1 : Hid (Ex newH col1 w1 b) := Lib.hid H1.out.2
  clear H1
  go_wp2_with fail
  refine (wk_a1 E1.out).mono ?_
  rintro e w2 ⟨rfl, col2, H2⟩
  have K2 := Lib.hid (K1.out.trans (H2.out.1.mono hq_nz))
  have E2 := Lib.hid H2.out.2
  clear H2 K1 E1
  go_wp2_with fail
  refine (handle_any 1 w2).mono ?_
  rintro e w3 ⟨rfl, hb3⟩
  have K3 := Lib.hid (K2.out.down hb3)
  have E3 : Hid (Ex exA col2 w3 b) := Lib.hid (HpAt.fresh E2.out hb3)
  clear K2 E2 hb3
  have hb4 : Below w3.heap.size w3 (w3.alloc (.cells #[.int .u8 2, .int .i64 1] 47)) := (Below.refl _ _).alloc (Nat.le_refl _) _
  have K4 := Lib.hid (K3.out.down hb4)
  have E4 : Hid (Ex exA col2 _ b) := Lib.hid (HpAt.fresh E3.out hb4)
  have hsl4 : Sl (w3.alloc (.cells #[.int .u8 2, .int .i64 1] 47)) 2 (.slice (some ⟨w3.heap.size, 0, none⟩) 1 1) 1 [.int .u8 2, .int .i64 1] := Sl.litS w3 [.int .u8 2, .int .i64 1] 47 2 1 rfl (by decide)
  have HSL4 := Lib.hid hsl4
  clear K3 E3 hb4 hsl4
  go_wp2_with fail
  refine (wk_a2 E4.out w3.heap.size HSL4.out).mono ?_
  rintro e w5 ⟨rfl, col5, H5⟩
  have K5 := Lib.hid (K4.out.trans (H5.out.1.mono hq_nz))
  have E5 := Lib.hid H5.out.2
  clear H5 K4 E4 HSL4
  go_wp2_with fail
  refine (wk_a3 E5.out).mono ?_
  rintro e w6 ⟨rfl, col6, H6⟩
  have K6 := Lib.hid (K5.out.trans (H6.out.1.mono hq_nz))
  have E6 := Lib.hid H6.out.2
  clear H6 K5 E5
  go_wp2_with fail
  refine (wk_used E6.out).mono ?_
  rintro e w7 ⟨rfl, rfl⟩
  go_wp2_with fail
  refine (wk_t1 E6.out).mono ?_
  rintro e w8 ⟨rfl, col8, H8⟩
  have K8 := Lib.hid (K6.out.trans (H8.out.1.mono hq_nz))
  have E8 := Lib.hid H8.out.2
  clear H8 K6 E6
  go_wp2_with fail
  refine (wk_t2 E8.out).mono ?_
  rintro e w9 ⟨rfl, col9, H9⟩
  have K9 := Lib.hid (K8.out.trans (H9.out.1.mono hq_nz))
  have E9 := Lib.hid H9.out.2
  clear H9 K8 E8
  go_wp2_with fail
  refine (number_any 7 w9).mono ?_
  rintro e w10 ⟨rfl, hb10⟩
  have K10 := Lib.hid (K9.out.down hb10)
  have E10 : Hid (Ex exD col9 w10 b) := Lib.hid (HpAt.fresh E9.out hb10)
  clear K9 E9 hb10
  go_wp2_with fail
  refine (wk_set E10.out).mono ?_
  rintro e w11 ⟨rfl, col11, H11⟩
  have K11 := Lib.hid (K10.out.trans (H11.out.1.mono hq_nz))
  have E11 := Lib.hid H11.out.2
  clear H11 K10 E10
  go_wp2_with fail
  refine (wk_dirty E11.out).mono ?_
  rintro e w12 ⟨aD, cD, rfl, ho12, hb12⟩
  have K12 := Lib.hid (K11.out.down hb12)
  obtain ⟨col12, hc12⟩ : ∃ x, x = recol col11 w11.heap.size 9 := ⟨_, rfl⟩
  have K12 : Hid (St NZ col0 w col12 w12) := Lib.hid (by rw [hc12]; exact K11.out.trans (St.new hb12 NZ col11 9))
  have E12 : Hid (Ex exE col12 w12 b) := Lib.hid (by rw [hc12]; exact HpAt.st E11.out (St.new hb12 (fun _ => False) col11 9) hq_false)
  have D12 : Hid (OwnC col12 w12 9 1 (.slice aD 1 cD) 1 (ints [2])) := Lib.hid (by rw [hc12]; exact OwnC.new ho12)
  clear K11 E11 ho12 hb12 hc12
  go_wp2_with fail
  refine (wk_coll E12.out).mono ?_
  rintro e w13 ⟨rfl, col13, H13⟩
  have K13 := Lib.hid (K12.out.trans (H13.out.1.mono hq_nz))
  have E13 := Lib.hid H13.out.2
  have D13 := Lib.hid (D12.out.st H13.out.1 nq9)
  clear H13 K12 E12 D12
  go_wp2_with fail
  refine (wk_word E13.out).mono ?_
  rintro e w14 ⟨rfl, hb14⟩
  have K14 := Lib.hid (K13.out.down hb14)
  have E14 : Hid (Ex exF col13 w14 b) := Lib.hid (HpAt.fresh E13.out hb14)
  have D14 := Lib.hid (D13.out.1.sl.below hb14)
  clear K13 E13 D13 hb14
  go_upto_region 12 with (refine wpL_storeRow rfl _ _ _ rfl (cs := [.int .u8 1, .int .i64 7]) rfl rfl (Row.new _ _ _) (by kernel_rfl) rfl rfl ?_; intro w15 hg15 hr15)
  have hb15 : Below w14.heap.size w14 w15 := below_grown ((Below.refl _ _).alloc (Nat.le_refl _) _) hg15 (Nat.le_refl _) (by simp)
  have K15 := Lib.hid (K14.out.down hb15)
  have E15 : Hid (Ex exF col13 w15 b) := Lib.hid (HpAt.fresh E14.out hb15)
  obtain ⟨b1, o1, u1, ha, hu, hcell⟩ := (D14.out.below hb15).at (k := 0) (by decide)
  have hu' : u1 = .int .i64 2 := by simpa [ints] using hu.symm
  subst hu' ha
  rw [Nat.add_zero] at hcell
  have q0 := later_cell hcell
  have q1 := later_cell (hr15.cell 0 : w15.cell? ⟨w14.heap.size, 0, none⟩ = some (.int .u8 1))
  have q2 := later_cell (hr15.cell 1 : w15.cell? ⟨w14.heap.size, 1, none⟩ = some (.int .i64 7))
  have HB := Lib.hid K15.out.below
  clear hb15 hg15 hr15 hu hcell K14 E14 D14
  try go_frame
  refine wp_region_idx Rb Rb_refl Rb_trans [(0,0),(0,1),(0,2),(0,3),(0,4),(0,5),(0,6),(0,7),(0,8),(0,9),(0,10),(0,11),(0,12),(0,13),(0,14),(1,15),(0,16),(0,17),(0,18),(0,19),(0,20),(0,21),(0,22),(1,23),(0,24),(0,25),(0,26)] (by kernel_rfl) (by kernel_rfl) (by kernel_rfl) ?_
  simp only [pickO, List.getD_cons_succ, List.getD_cons_zero]
  refine wpCan_seg 15 (by kernel_rfl) ?_
  simp only [List.take_succ_cons, List.take_zero, List.drop_succ_cons, List.drop_zero, List.map_cons, List.map_nil]
  iterate 15 (go_big_quiet_step (fail))
  refine wpQuiet_nil ?_
  refine wpCan_list (k := 0) (fun KK hK => ?_) (fun _ => Rb_refl _)
  go_wp2_with fail
  refine (wk_count (HpAt.fresh E15.out (Below.refl w15.heap.size w15).drew)).mono ?_
  rintro e w16 ⟨rfl, rfl⟩
  go_wp2_with fail
  refine hK _ _ (fun _ => Rb_refl _) ?_
  clear hK KK
  refine wpCan_seg 7 (by kernel_rfl) ?_
  simp only [List.take_succ_cons, List.take_zero, List.drop_succ_cons, List.drop_zero, List.map_cons, List.map_nil]
  iterate 7 (go_big_quiet_step (fail))
  refine wpQuiet_nil ?_
  clear q0 q1 q2
  refine wpCan_list (k := 0) (fun KK hK => ?_) (fun _ => Rb_refl _)
  go_wp2_with fail
  refine (number_any 7 _).mono ?_
  rintro e w17 ⟨rfl, hb17⟩
  go_wp2_with fail
  refine hK _ _ (fun _ => hb17) ?_
  clear hK KK
  refine wpCan_seg 3 (by kernel_rfl) ?_
  simp only [List.take_succ_cons, List.take_zero, List.drop_succ_cons, List.drop_zero, List.map_cons, List.map_nil]
  iterate 3 (go_big_quiet_step (fail))
  refine wpQuiet_nil ?_
  unfold wpCan
  go_wp2_with fail
  go_ret
  exact ⟨rfl, (HB.out.drew).trans (hb17.mono HB.out.size)⟩
end Go.Proofs.Ytekmgffjdheifaa
