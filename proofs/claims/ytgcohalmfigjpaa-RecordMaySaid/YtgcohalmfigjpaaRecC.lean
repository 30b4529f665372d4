/-
  Whether there may be such an object, walked.
-/
import Derived.Test.YtgcohalmfigjpaaRecB
import Derived.Test.YtgcohalmfigjpaaFork
import Derived.Test.YtgcohalmfigjpaaSep
namespace Go.Proofs.Ytgcohalmfigjpaa
open Go.RowKit
set_option linter.unusedVariables false
set_option linter.unusedSimpArgs false

def objV (k : Nat) (t : Int) (v : Value) (S : List UInt8) : Value := .agg #[.int .u8 (k : Int), .int .i64 t, v, .string (str S)]
def capN (n : Nat) : Nat := if n ≤ 8192 then n else 8192
def mayN (k : Nat) (t : Int) (n : Nat) (wr : Bool) (e : Bool) : Bool :=
  lis k && decide (lmin k ≤ (capN n : Int)) && decide ((capN n : Int) ≤ lmax k) && !wr && (decide (k = 5) || e) && (if k = 2 then decide (0 ≤ t ∧ t < 65536) else decide (t = 0))
/-- what the later worlds keep: what is below, and every map -/
def RbM (B : Nat) (x y : World) : Prop := Below B x y ∧ ∀ (b : Nat) (es : Array MapEntry) (c : Nat), x.heap[b]? = some (.map es c) → y.heap[b]? = some (.map es c)
theorem RbM_refl (B : Nat) (w : World) : RbM B w w := ⟨Below.refl _ _, fun _ _ _ h => h⟩
theorem RbM_trans (B : Nat) (x y z : World) (h : RbM B x y) (k : RbM B y z) : RbM B x z := ⟨Below.trans h.1 k.1, fun b es c hx => k.2 b es c (h.2 b es c hx)⟩
instance laterRbM (B : Nat) (w : World) : Nonempty (Later (RbM B) w) := nonemptyLater (RbM_refl B) w
theorem RbM.of {B : Nat} {x y : World} (h : Below x.heap.size x y) (hB : B ≤ x.heap.size) : RbM B x y :=
  ⟨h.mono hB, fun b es c hx => (h.block b (lt_of_block hx)).trans hx⟩
theorem RbM.grown {B b0 : Nat} {e : TypeId} {l : List Value} {x y : World} (h : x.grownBy y (some b0)) (hr : Row x b0 e l) (hB : B ≤ b0) : RbM B x y := by
  refine ⟨⟨h.os, h.tape, h.output, h.size, fun k hk => h.block k (Nat.lt_of_lt_of_le hk (Nat.le_trans hB (Nat.le_of_lt hr.lt))) (fun e9 => by cases e9; omega)⟩, fun b es c hx => ?_⟩
  have hne : some b ≠ some b0 := by
    intro e9
    cases e9
    unfold Row at hr
    rw [hr] at hx
    cases hx
  exact (h.block b (lt_of_block hx) hne).trans hx
theorem laterM_cell {B : Nat} {w : World} {b o : Nat} {v : Value} (h : w.cell? ⟨b, o, none⟩ = some v) (hb : b < B) : ∀ x : Later (RbM B) w.drew, x.w.cell? ⟨b, o, none⟩ = some v :=
  fun x => (Below.cell (p := ⟨b, o, none⟩) x.later.1 hb).trans h
theorem later_look {B : Nat} {w : World} {r K : Nat} (hr : w.heap[r]? = some (.map limE 5)) : ∀ x : Later (RbM B) w,
    (Instr.lookup 64 (.map (some r)) (.int .u8 (K : Int)) true).run Try.prog x.w = .ok (.tuple #[.agg #[.int .i64 (lmin K), .int .i64 (lmax K)], .bool (lis K)]) x.w :=
  fun x => look x.w r K (x.later.2 _ _ _ hr)
set_option maxHeartbeats 1600000 in
theorem may_p (k : Nat) (t : Int) (a : Option Addr) (n c : Nat) (l : List (UInt8 × Int)) (S : List UInt8) (w : World) (hl : Sl w 2 (.slice a n c) n (wcells l)) (X : Bool) (H : Hid (X = mayN k t n (l.any wrongB) (decide (S = [])))) :
    Calls Try.prog 23 #[.agg #[.int .u8 (k : Int), .int .i64 t, .slice a n c, .string (str S)]] w fun e w' => e = .returned (.bool X) ∧ Below w.heap.size w w' := by
  go_enter Try.func23, Try.ntmps23
  have hb1 : Below w.heap.size w (w.alloc (.cells #[.int .u8 (k : Int), .int .i64 t, .slice a n c, .string (str S)] 24)) := (Below.refl _ _).alloc (Nat.le_refl _) _
  have hr1 := Row.new w [.int .u8 (k : Int), .int .i64 t, .slice a n c, .string (str S)] 24
  have hl1 := hl.below hb1
  go_wp2_with fail
  have e1 : w.alloc (.cells #[.int .u8 (k : Int), .int .i64 t, .slice a n c, .string (str S)] 24) = w.alloc (.cells [.int .u8 (k : Int), .int .i64 t, .slice a n c, .string (str S)].toArray 24) := rfl
  rw [e1] at hb1 hl1 ⊢
  generalize w.alloc (.cells [.int .u8 (k : Int), .int .i64 t, .slice a n c, .string (str S)].toArray 24) = w1 at hb1 hr1 hl1 ⊢
  have hlt := hr1.lt
  have q0 := laterM_cell (B := w1.heap.size) (hr1.cell 0) hlt
  refine wp_region_fork (RbM w1.heap.size) (RbM_refl _) (RbM_trans _) [(0,1),(0,2)] 0 7 [(0,3),(0,4),(0,5),(0,6),(1,7),(1,8),(0,9)] [(1,0),(0,3),(0,4),(0,5),(0,6),(1,8),(0,9)] (by kernel_rfl) (by kernel_rfl) (by kernel_rfl) ?_
  simp only [pickO, List.getD_cons_succ, List.getD_cons_zero]
  refine wpCan_seg 2 (by kernel_rfl) ?_
  simp only [List.zip_cons_cons, List.zip_nil_left, List.take_succ_cons, List.take_zero, List.drop_succ_cons, List.drop_zero, List.map_cons, List.map_nil]
  iterate 2 (go_big_quiet_step (fail))
  refine wpQuiet_nil ?_
  clear q0
  refine ⟨?_, ?_⟩
  · refine wpCan_list (k := 0) (fun K hK => ?_) (fun _ => RbM_refl _ _)
    go_wp2_with fail
    refine (words_any _).mono ?_
    rintro e w2 ⟨rfl, hw2⟩
    have hm2 : w2.heap[w1.heap.size]? = some (.map limE 5) := by rw [hw2]; exact heap_alloc_new _ _
    have hb2 : Below w1.heap.size w1 w2 := by rw [hw2]; exact ((Below.refl _ _).drew).alloc (Nat.le_refl _) _
    have hb2d : Below w1.drew.heap.size w1.drew w2 := by rw [hw2]; exact (Below.refl _ _).alloc (Nat.le_refl _) _
    clear hw2
    go_wp2_with fail
    refine hK _ _ (fun _ => RbM.of hb2d (Nat.le_refl _)) ?_
    clear hK K
    have q1 := later_look (B := w1.heap.size) (K := k) hm2
    refine wpCan_seg 4 (by kernel_rfl) ?_
    simp only [List.zip_cons_cons, List.zip_nil_left, List.take_succ_cons, List.take_zero, List.drop_succ_cons, List.drop_zero, List.map_cons, List.map_nil]
    iterate 4 (go_big_quiet_step (fail))
    refine wpQuiet_nil ?_
    clear q1
    refine wpCan_list (k := 0) (fun K hK => ?_) (fun _ => RbM_refl _ _)
    go_wp2_with fail
    have hr2 := hr1.below hb2 hlt
    have hb3 : Below w2.heap.size w2 (w2.alloc (.cells #[.int .i64 0, .int .i64 0] 62)) := (Below.refl _ _).alloc (Nat.le_refl _) _
    have hr3 := hr2.after hb3
    have hrl3 : Row (w2.alloc (.cells #[.int .i64 0, .int .i64 0] 62)) w2.heap.size 62 [.int .i64 0, .int .i64 0] := Row.new w2 _ _
    refine hK _ _ (fun _ => RbM.of hb3 hb2.size) ?_
    clear hK K
    refine wpCan_list (k := 0) (fun K hK => ?_) (fun _ => RbM_refl _ _)
    go_wp2_with (refine wpL_storeRow rfl _ _ _ rfl rfl rfl hrl3 (by kernel_rfl) rfl rfl ?_; intro w4 hg4 hrl4)
    have hm4 := RbM.grown hg4 hrl3 hb2.size
    refine hK _ _ (fun _ => hm4) ?_
    clear hK K
    refine wpCan_seg 1 (by kernel_rfl) ?_
    simp only [List.zip_cons_cons, List.zip_nil_left, List.take_succ_cons, List.take_zero, List.drop_succ_cons, List.drop_zero, List.map_cons, List.map_nil]
    iterate 1 (go_big_quiet_step (fail))
    refine wpQuiet_nil ?_
    unfold wpCan
    have hr4 := hr3.grown hg4 (by intro e9; have e8 := Option.some.inj e9; have := hb2.size; omega)
    have hB4 : Below w.heap.size w w4 := (((hb1.trans (hb2.mono hb1.size))).trans (hb3.mono (Nat.le_trans hb1.size hb2.size))).trans (hm4.1.mono hb1.size)
    have hl4 := hl.below hB4
    generalize w2.heap.size = BL at hrl4 ⊢
    clear hm4 hr3 hrl3 hb3 hr2 hb2d hb2 hm2 hr1 hlt hl1 hb1 hg4
    have d0 := hrl4.cell 0
    have d1 := hrl4.cell 1
    have c0 := hr4.cell 0
    have c1 := hr4.cell 1
    have c2 := hr4.cell 2
    have c3 := hr4.cell 3
    simp only [List.getElem?_cons_zero, List.getElem?_cons_succ] at c0 c1 c2 c3 d0 d1
    clear hrl4 hr4
    have hn := hl.wordLen.2
    obtain ⟨B, hB⟩ : ∃ B, B = l.any wrongB := ⟨_, rfl⟩
    have HM : Hid (X = (lis k && decide (lmin k ≤ (capN n : Int)) && decide ((capN n : Int) ≤ lmax k) && !B && (decide (k = 5) || decide (S = [])) && (if k = 2 then decide (0 ≤ t ∧ t < 65536) else decide (t = 0)))) := by
      rw [hB]; exact H.out
    have HB := Lib.hid hB
    clear hB H
    generalize lmin k = p at HM d0 ⊢
    generalize lmax k = q at HM d1 ⊢
    generalize lis k = b at HM ⊢
    by_cases h9 : n ≤ 8192
    · have hc : ((capN n : Nat) : Int) = n := by rw [capN, if_pos h9]
      rw [hc] at HM
      cases b with
      | false =>
        go_wp2_with fail
        go_ret
        rw [HM.out]
        exact ⟨rfl, hB4⟩
      | true =>
        by_cases g1 : (n : Int) < p
        · go_wp2_with fail
          go_ret
          rw [HM.out, decide_eq_false (by omega : ¬ p ≤ (n : Int))]
          exact ⟨rfl, hB4⟩
        have g1' : p ≤ (n : Int) := by omega
        by_cases g2 : q < (n : Int)
        · go_wp2_with fail
          go_ret
          rw [HM.out, decide_eq_false (by omega : ¬ (n : Int) ≤ q)]
          exact ⟨by simp, hB4⟩
        have g2' : (n : Int) ≤ q := by omega
        go_wp2_with fail
        refine (contains_any a n c l w4 hl4 B HB).mono ?_
        rintro e w5 ⟨rfl, hb5⟩
        have hB5 := hB4.trans (hb5.mono hB4.size)
        have f0 := (Below.cell (p := ⟨w.heap.size, 0, none⟩) hb5 (lt_of_cell c0)).trans c0
        have f1 := (Below.cell (p := ⟨w.heap.size, 1, none⟩) hb5 (lt_of_cell c1)).trans c1
        have f3 := (Below.cell (p := ⟨w.heap.size, 3, none⟩) hb5 (lt_of_cell c3)).trans c3
        clear c0 c1 c2 c3 d0 d1
        cases B with
        | true =>
          go_wp2_with fail
          go_ret
          rw [HM.out]
          exact ⟨by simp, hB5⟩
        | false =>
          by_cases k5 : k = 5
          · subst k5
            by_cases t0 : t = 0
            · subst t0
              go_wp2_with fail
              go_ret
              rw [HM.out]
              exact ⟨by simp [g1', g2'], hB5⟩
            · have t0' : (t == 0) = false := by rw [beq_eq_false_iff_ne]; exact t0
              go_wp2_with fail
              go_ret
              rw [HM.out, if_neg (by decide), decide_eq_false t0]
              exact ⟨by simp, hB5⟩
          · have k5' : ((k : Int) != 5) = true := by rw [bne_iff_ne]; omega
            by_cases hS : S = []
            · have hS1 : (str S).toList.isEmpty = true := by rw [ByteArray.toList_eq, str_toList, hS]; rfl
              have HS := Lib.hid hS
              clear hS
              by_cases k2 : k = 2
              · subst k2
                by_cases t1 : t < 0
                · go_wp2_with fail
                  go_ret
                  rw [HM.out, decide_eq_false (by omega : ¬ (0 ≤ t ∧ t < 65536))]
                  exact ⟨by simp, hB5⟩
                · have t1' : 0 ≤ t := by omega
                  by_cases t2 : t < 65536
                  · go_wp2_with fail
                    go_ret
                    rw [HM.out, decide_eq_true (And.intro t1' t2)]
                    exact ⟨by simp [g1', g2', k5, HS.out], hB5⟩
                  · go_wp2_with fail
                    go_ret
                    rw [HM.out, decide_eq_false (by omega : ¬ (0 ≤ t ∧ t < 65536))]
                    exact ⟨by simp; omega, hB5⟩
              · have k2' : ((k : Int) != 2) = true := by rw [bne_iff_ne]; omega
                by_cases t0 : t = 0
                · subst t0
                  go_wp2_with fail
                  go_ret
                  rw [HM.out, if_neg k2]
                  exact ⟨by simp [g1', g2', k5, HS.out], hB5⟩
                · have t0' : (t == 0) = false := by rw [beq_eq_false_iff_ne]; exact t0
                  go_wp2_with fail
                  go_ret
                  rw [HM.out, if_neg k2, decide_eq_false t0]
                  exact ⟨by simp, hB5⟩
            · have hS1 : (str S).toList.isEmpty = false := by rw [ByteArray.toList_eq, str_toList, List.isEmpty_eq_false_iff]; exact hS
              have HS := Lib.hid hS
              clear hS
              go_wp2_with fail
              go_ret
              rw [HM.out, decide_eq_false k5, decide_eq_false HS.out]
              exact ⟨by simp, hB5⟩
    · have hc : ((capN n : Nat) : Int) = 8192 := by rw [capN, if_neg h9]; rfl
      rw [hc] at HM
      have h9' : (8192 : Int) < n := by omega
      cases b with
      | false =>
        go_wp2_with fail
        go_ret
        rw [HM.out]
        exact ⟨rfl, hB4⟩
      | true =>
        by_cases g1 : (8192 : Int) < p
        · go_wp2_with fail
          go_ret
          rw [HM.out, decide_eq_false (by omega : ¬ p ≤ (8192 : Int))]
          exact ⟨rfl, hB4⟩
        have g1' : p ≤ (8192 : Int) := by omega
        by_cases g2 : q < (8192 : Int)
        · go_wp2_with fail
          go_ret
          rw [HM.out, decide_eq_false (by omega : ¬ (8192 : Int) ≤ q)]
          exact ⟨by simp, hB4⟩
        have g2' : (8192 : Int) ≤ q := by omega
        go_wp2_with fail
        refine (contains_any a n c l w4 hl4 B HB).mono ?_
        rintro e w5 ⟨rfl, hb5⟩
        have hB5 := hB4.trans (hb5.mono hB4.size)
        have f0 := (Below.cell (p := ⟨w.heap.size, 0, none⟩) hb5 (lt_of_cell c0)).trans c0
        have f1 := (Below.cell (p := ⟨w.heap.size, 1, none⟩) hb5 (lt_of_cell c1)).trans c1
        have f3 := (Below.cell (p := ⟨w.heap.size, 3, none⟩) hb5 (lt_of_cell c3)).trans c3
        clear c0 c1 c2 c3 d0 d1
        cases B with
        | true =>
          go_wp2_with fail
          go_ret
          rw [HM.out]
          exact ⟨by simp, hB5⟩
        | false =>
          by_cases k5 : k = 5
          · subst k5
            by_cases t0 : t = 0
            · subst t0
              go_wp2_with fail
              go_ret
              rw [HM.out]
              exact ⟨by simp [g1', g2'], hB5⟩
            · have t0' : (t == 0) = false := by rw [beq_eq_false_iff_ne]; exact t0
              go_wp2_with fail
              go_ret
              rw [HM.out, if_neg (by decide), decide_eq_false t0]
              exact ⟨by simp, hB5⟩
          · have k5' : ((k : Int) != 5) = true := by rw [bne_iff_ne]; omega
            by_cases hS : S = []
            · have hS1 : (str S).toList.isEmpty = true := by rw [ByteArray.toList_eq, str_toList, hS]; rfl
              have HS := Lib.hid hS
              clear hS
              by_cases k2 : k = 2
              · subst k2
                by_cases t1 : t < 0
                · go_wp2_with fail
                  go_ret
                  rw [HM.out, decide_eq_false (by omega : ¬ (0 ≤ t ∧ t < 65536))]
                  exact ⟨by simp, hB5⟩
                · have t1' : 0 ≤ t := by omega
                  by_cases t2 : t < 65536
                  · go_wp2_with fail
                    go_ret
                    rw [HM.out, decide_eq_true (And.intro t1' t2)]
                    exact ⟨by simp [g1', g2', k5, HS.out], hB5⟩
                  · go_wp2_with fail
                    go_ret
                    rw [HM.out, decide_eq_false (by omega : ¬ (0 ≤ t ∧ t < 65536))]
                    exact ⟨by simp; omega, hB5⟩
              · have k2' : ((k : Int) != 2) = true := by rw [bne_iff_ne]; omega
                by_cases t0 : t = 0
                · subst t0
                  go_wp2_with fail
                  go_ret
                  rw [HM.out, if_neg k2]
                  exact ⟨by simp [g1', g2', k5, HS.out], hB5⟩
                · have t0' : (t == 0) = false := by rw [beq_eq_false_iff_ne]; exact t0
                  go_wp2_with fail
                  go_ret
                  rw [HM.out, if_neg k2, decide_eq_false t0]
                  exact ⟨by simp, hB5⟩
            · have hS1 : (str S).toList.isEmpty = false := by rw [ByteArray.toList_eq, str_toList, List.isEmpty_eq_false_iff]; exact hS
              have HS := Lib.hid hS
              clear hS
              go_wp2_with fail
              go_ret
              rw [HM.out, decide_eq_false k5, decide_eq_false HS.out]
              exact ⟨by simp, hB5⟩
  · refine wpCan_list (k := 0) (fun K hK => ?_) (fun _ => RbM_refl _ _)
    go_wp2_with fail
    have hb2 : Below w1.heap.size w1 ((w1.alloc (.cells #[.int .i64 0, .int .i64 0] 62)).drew) := ((Below.refl _ _).alloc (Nat.le_refl _) _).drew
    have hb2d : Below w1.drew.heap.size w1.drew ((w1.alloc (.cells #[.int .i64 0, .int .i64 0] 62)).drew) := ((Below.refl w1.drew.heap.size w1.drew).alloc (Nat.le_refl _) _)
    have hsz : ((w1.alloc (.cells #[.int .i64 0, .int .i64 0] 62)).drew).heap.size = w1.heap.size + 1 := by show (w1.heap.push _).size = _; simp
    have hr2 := hr1.below hb2 hlt
    have hrl2 : Row ((w1.alloc (.cells #[.int .i64 0, .int .i64 0] 62)).drew) w1.heap.size 62 [.int .i64 0, .int .i64 0] := (Row.new w1 _ _).drew
    refine hK _ _ (fun _ => RbM.of hb2d (Nat.le_refl _)) ?_
    clear hK K
    generalize (w1.alloc (.cells #[.int .i64 0, .int .i64 0] 62)).drew = w2 at hb2 hb2d hr2 hrl2 hsz ⊢
    refine wpCan_list (k := 0) (fun K hK => ?_) (fun _ => RbM_refl _ _)
    go_wp2_with fail
    refine (words_any _).mono ?_
    rintro e w3 ⟨rfl, hw3⟩
    have hm3 : w3.heap[w1.heap.size + 1]? = some (.map limE 5) := by rw [hw3, ← hsz]; exact heap_alloc_new _ _
    have hb3 : Below w2.heap.size w2 w3 := by rw [hw3]; exact (Below.refl _ _).alloc (Nat.le_refl _) _
    clear hw3
    go_wp2_with fail
    have hr3 := hr2.after hb3
    have hrl3 := hrl2.after hb3
    refine hK _ _ (fun _ => RbM.of hb3 hb2.size) ?_
    clear hK K
    have q1 := later_look (B := w1.heap.size) (K := k) hm3
    refine wpCan_seg 4 (by kernel_rfl) ?_
    simp only [List.zip_cons_cons, List.zip_nil_left, List.take_succ_cons, List.take_zero, List.drop_succ_cons, List.drop_zero, List.map_cons, List.map_nil]
    iterate 4 (go_big_quiet_step (fail))
    refine wpQuiet_nil ?_
    clear q1
    refine wpCan_list (k := 0) (fun K hK => ?_) (fun _ => RbM_refl _ _)
    go_wp2_with (refine wpL_storeRow rfl _ _ _ rfl rfl rfl hrl3 (by kernel_rfl) rfl rfl ?_; intro w4 hg4 hrl4)
    have hm4 := RbM.grown hg4 hrl3 (Nat.le_refl _)
    refine hK _ _ (fun _ => hm4) ?_
    clear hK K
    refine wpCan_seg 1 (by kernel_rfl) ?_
    simp only [List.zip_cons_cons, List.zip_nil_left, List.take_succ_cons, List.take_zero, List.drop_succ_cons, List.drop_zero, List.map_cons, List.map_nil]
    iterate 1 (go_big_quiet_step (fail))
    refine wpQuiet_nil ?_
    unfold wpCan
    have hr4 := hr3.grown hg4 (by intro e9; have e8 := Option.some.inj e9; omega)
    have hB4 : Below w.heap.size w w4 := (((hb1.trans (hb2.mono hb1.size))).trans (hb3.mono (Nat.le_trans hb1.size hb2.size))).trans (hm4.1.mono hb1.size)
    have hl4 := hl.below hB4
    generalize w1.heap.size = BL at hrl4 ⊢
    clear hsz hm4 hr3 hrl3 hb3 hr2 hrl2 hb2d hb2 hm3 hr1 hlt hl1 hb1 hg4
    have d0 := hrl4.cell 0
    have d1 := hrl4.cell 1
    have c0 := hr4.cell 0
    have c1 := hr4.cell 1
    have c2 := hr4.cell 2
    have c3 := hr4.cell 3
    simp only [List.getElem?_cons_zero, List.getElem?_cons_succ] at c0 c1 c2 c3 d0 d1
    clear hrl4 hr4
    have hn := hl.wordLen.2
    obtain ⟨B, hB⟩ : ∃ B, B = l.any wrongB := ⟨_, rfl⟩
    have HM : Hid (X = (lis k && decide (lmin k ≤ (capN n : Int)) && decide ((capN n : Int) ≤ lmax k) && !B && (decide (k = 5) || decide (S = [])) && (if k = 2 then decide (0 ≤ t ∧ t < 65536) else decide (t = 0)))) := by
      rw [hB]; exact H.out
    have HB := Lib.hid hB
    clear hB H
    generalize lmin k = p at HM d0 ⊢
    generalize lmax k = q at HM d1 ⊢
    generalize lis k = b at HM ⊢
    by_cases h9 : n ≤ 8192
    · have hc : ((capN n : Nat) : Int) = n := by rw [capN, if_pos h9]
      rw [hc] at HM
      cases b with
      | false =>
        go_wp2_with fail
        go_ret
        rw [HM.out]
        exact ⟨rfl, hB4⟩
      | true =>
        by_cases g1 : (n : Int) < p
        · go_wp2_with fail
          go_ret
          rw [HM.out, decide_eq_false (by omega : ¬ p ≤ (n : Int))]
          exact ⟨rfl, hB4⟩
        have g1' : p ≤ (n : Int) := by omega
        by_cases g2 : q < (n : Int)
        · go_wp2_with fail
          go_ret
          rw [HM.out, decide_eq_false (by omega : ¬ (n : Int) ≤ q)]
          exact ⟨by simp, hB4⟩
        have g2' : (n : Int) ≤ q := by omega
        go_wp2_with fail
        refine (contains_any a n c l w4 hl4 B HB).mono ?_
        rintro e w5 ⟨rfl, hb5⟩
        have hB5 := hB4.trans (hb5.mono hB4.size)
        have f0 := (Below.cell (p := ⟨w.heap.size, 0, none⟩) hb5 (lt_of_cell c0)).trans c0
        have f1 := (Below.cell (p := ⟨w.heap.size, 1, none⟩) hb5 (lt_of_cell c1)).trans c1
        have f3 := (Below.cell (p := ⟨w.heap.size, 3, none⟩) hb5 (lt_of_cell c3)).trans c3
        clear c0 c1 c2 c3 d0 d1
        cases B with
        | true =>
          go_wp2_with fail
          go_ret
          rw [HM.out]
          exact ⟨by simp, hB5⟩
        | false =>
          by_cases k5 : k = 5
          · subst k5
            by_cases t0 : t = 0
            · subst t0
              go_wp2_with fail
              go_ret
              rw [HM.out]
              exact ⟨by simp [g1', g2'], hB5⟩
            · have t0' : (t == 0) = false := by rw [beq_eq_false_iff_ne]; exact t0
              go_wp2_with fail
              go_ret
              rw [HM.out, if_neg (by decide), decide_eq_false t0]
              exact ⟨by simp, hB5⟩
          · have k5' : ((k : Int) != 5) = true := by rw [bne_iff_ne]; omega
            by_cases hS : S = []
            · have hS1 : (str S).toList.isEmpty = true := by rw [ByteArray.toList_eq, str_toList, hS]; rfl
              have HS := Lib.hid hS
              clear hS
              by_cases k2 : k = 2
              · subst k2
                by_cases t1 : t < 0
                · go_wp2_with fail
                  go_ret
                  rw [HM.out, decide_eq_false (by omega : ¬ (0 ≤ t ∧ t < 65536))]
                  exact ⟨by simp, hB5⟩
                · have t1' : 0 ≤ t := by omega
                  by_cases t2 : t < 65536
                  · go_wp2_with fail
                    go_ret
                    rw [HM.out, decide_eq_true (And.intro t1' t2)]
                    exact ⟨by simp [g1', g2', k5, HS.out], hB5⟩
                  · go_wp2_with fail
                    go_ret
                    rw [HM.out, decide_eq_false (by omega : ¬ (0 ≤ t ∧ t < 65536))]
                    exact ⟨by simp; omega, hB5⟩
              · have k2' : ((k : Int) != 2) = true := by rw [bne_iff_ne]; omega
                by_cases t0 : t = 0
                · subst t0
                  go_wp2_with fail
                  go_ret
                  rw [HM.out, if_neg k2]
                  exact ⟨by simp [g1', g2', k5, HS.out], hB5⟩
                · have t0' : (t == 0) = false := by rw [beq_eq_false_iff_ne]; exact t0
                  go_wp2_with fail
                  go_ret
                  rw [HM.out, if_neg k2, decide_eq_false t0]
                  exact ⟨by simp, hB5⟩
            · have hS1 : (str S).toList.isEmpty = false := by rw [ByteArray.toList_eq, str_toList, List.isEmpty_eq_false_iff]; exact hS
              have HS := Lib.hid hS
              clear hS
              go_wp2_with fail
              go_ret
              rw [HM.out, decide_eq_false k5, decide_eq_false HS.out]
              exact ⟨by simp, hB5⟩
    · have hc : ((capN n : Nat) : Int) = 8192 := by rw [capN, if_neg h9]; rfl
      rw [hc] at HM
      have h9' : (8192 : Int) < n := by omega
      cases b with
      | false =>
        go_wp2_with fail
        go_ret
        rw [HM.out]
        exact ⟨rfl, hB4⟩
      | true =>
        by_cases g1 : (8192 : Int) < p
        · go_wp2_with fail
          go_ret
          rw [HM.out, decide_eq_false (by omega : ¬ p ≤ (8192 : Int))]
          exact ⟨rfl, hB4⟩
        have g1' : p ≤ (8192 : Int) := by omega
        by_cases g2 : q < (8192 : Int)
        · go_wp2_with fail
          go_ret
          rw [HM.out, decide_eq_false (by omega : ¬ (8192 : Int) ≤ q)]
          exact ⟨by simp, hB4⟩
        have g2' : (8192 : Int) ≤ q := by omega
        go_wp2_with fail
        refine (contains_any a n c l w4 hl4 B HB).mono ?_
        rintro e w5 ⟨rfl, hb5⟩
        have hB5 := hB4.trans (hb5.mono hB4.size)
        have f0 := (Below.cell (p := ⟨w.heap.size, 0, none⟩) hb5 (lt_of_cell c0)).trans c0
        have f1 := (Below.cell (p := ⟨w.heap.size, 1, none⟩) hb5 (lt_of_cell c1)).trans c1
        have f3 := (Below.cell (p := ⟨w.heap.size, 3, none⟩) hb5 (lt_of_cell c3)).trans c3
        clear c0 c1 c2 c3 d0 d1
        cases B with
        | true =>
          go_wp2_with fail
          go_ret
          rw [HM.out]
          exact ⟨by simp, hB5⟩
        | false =>
          by_cases k5 : k = 5
          · subst k5
            by_cases t0 : t = 0
            · subst t0
              go_wp2_with fail
              go_ret
              rw [HM.out]
              exact ⟨by simp [g1', g2'], hB5⟩
            · have t0' : (t == 0) = false := by rw [beq_eq_false_iff_ne]; exact t0
              go_wp2_with fail
              go_ret
              rw [HM.out, if_neg (by decide), decide_eq_false t0]
              exact ⟨by simp, hB5⟩
          · have k5' : ((k : Int) != 5) = true := by rw [bne_iff_ne]; omega
            by_cases hS : S = []
            · have hS1 : (str S).toList.isEmpty = true := by rw [ByteArray.toList_eq, str_toList, hS]; rfl
              have HS := Lib.hid hS
              clear hS
              by_cases k2 : k = 2
              · subst k2
                by_cases t1 : t < 0
                · go_wp2_with fail
                  go_ret
                  rw [HM.out, decide_eq_false (by omega : ¬ (0 ≤ t ∧ t < 65536))]
                  exact ⟨by simp, hB5⟩
                · have t1' : 0 ≤ t := by omega
                  by_cases t2 : t < 65536
                  · go_wp2_with fail
                    go_ret
                    rw [HM.out, decide_eq_true (And.intro t1' t2)]
                    exact ⟨by simp [g1', g2', k5, HS.out], hB5⟩
                  · go_wp2_with fail
                    go_ret
                    rw [HM.out, decide_eq_false (by omega : ¬ (0 ≤ t ∧ t < 65536))]
                    exact ⟨by simp; omega, hB5⟩
              · have k2' : ((k : Int) != 2) = true := by rw [bne_iff_ne]; omega
                by_cases t0 : t = 0
                · subst t0
                  go_wp2_with fail
                  go_ret
                  rw [HM.out, if_neg k2]
                  exact ⟨by simp [g1', g2', k5, HS.out], hB5⟩
                · have t0' : (t == 0) = false := by rw [beq_eq_false_iff_ne]; exact t0
                  go_wp2_with fail
                  go_ret
                  rw [HM.out, if_neg k2, decide_eq_false t0]
                  exact ⟨by simp, hB5⟩
            · have hS1 : (str S).toList.isEmpty = false := by rw [ByteArray.toList_eq, str_toList, List.isEmpty_eq_false_iff]; exact hS
              have HS := Lib.hid hS
              clear hS
              go_wp2_with fail
              go_ret
              rw [HM.out, decide_eq_false k5, decide_eq_false HS.out]
              exact ⟨by simp, hB5⟩
end Go.Proofs.Ytgcohalmfigjpaa
