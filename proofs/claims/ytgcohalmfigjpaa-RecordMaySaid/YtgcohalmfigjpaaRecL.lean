/-
  The document's Same, of two that are the same; its Copy.
-/
import Derived.Test.YtgcohalmfigjpaaRecK
import Derived.BigQuiet
namespace Go.Proofs.Ytgcohalmfigjpaa
open Go.RowKit
set_option linter.unusedVariables false
set_option linter.unusedSimpArgs false

set_option maxHeartbeats 1600000 in
theorem same_t (k : Nat) (t : Int) (a : Option Addr) (n c : Nat) (a2 : Option Addr) (c2 : Nat) (l : List (UInt8 × Int)) (S : List UInt8) (w : World) (hl : Sl w 2 (.slice a n c) n (wcells l)) (hl2 : Sl w 2 (.slice a2 n c2) n (wcells l)) :
    Calls Try.prog 15 #[.agg #[.int .u8 (k : Int), .int .i64 t, .slice a n c, .string (str S)], .agg #[.int .u8 (k : Int), .int .i64 t, .slice a2 n c2, .string (str S)]] w fun e w' => e = .returned (.bool true) ∧ Below w.heap.size w w' := by
  have hn := hl.wordLen.2
  go_enter Try.func15, Try.ntmps15
  have hb1 : Below w.heap.size w ((w.alloc (.cells #[.int .u8 (k : Int), .int .i64 t, .slice a n c, .string (str S)] 24)).alloc (.cells #[.int .u8 (k : Int), .int .i64 t, .slice a2 n c2, .string (str S)] 24)) := ((Below.refl _ _).alloc (Nat.le_refl _) _).alloc (by simp) _
  have hrA := (Row.new w [.int .u8 (k : Int), .int .i64 t, .slice a n c, .string (str S)] 24).alloc (.cells #[.int .u8 (k : Int), .int .i64 t, .slice a2 n c2, .string (str S)] 24)
  have hrB := Row.new (w.alloc (.cells [.int .u8 (k : Int), .int .i64 t, .slice a n c, .string (str S)].toArray 24)) [.int .u8 (k : Int), .int .i64 t, .slice a2 n c2, .string (str S)] 24
  rw [World.size_alloc] at hrB
  have hkk : ((k : Int) == (k : Int)) = true := by simp
  have htt : (t == t) = true := by simp
  have hss : ((str S).toList == (str S).toList) = true := by simp
  have hnn : ((n : Int) == (n : Int)) = true := by simp
  go_wp2_with fail
  go_loopw [5] (fun v5 wr => ∃ i : Nat, i ≤ n ∧ v5 = .int .i64 i ∧ Below w.heap.size w wr ∧ Row wr w.heap.size 24 [.int .u8 (k : Int), .int .i64 t, .slice a n c, .string (str S)] ∧ Row wr (w.heap.size + 1) 24 [.int .u8 (k : Int), .int .i64 t, .slice a2 n c2, .string (str S)]) (fun v5 _ => n - (intOf v5).toNat)
  case atStart => exact ⟨0, Nat.zero_le _, rfl, hb1, hrA, hrB⟩
  case round =>
    obtain ⟨i, hi, rfl, hb, hA, hB⟩ := hrel
    have c1 := hA.cell 2
    have c2' := hB.cell 2
    simp only [List.getElem?_cons_zero, List.getElem?_cons_succ] at c1 c2'
    by_cases hin : i = n
    · subst hin
      go_wp2_with fail
      go_ret
      exact ⟨rfl, hb⟩
    · have hlt : i < n := by omega
      have hlt' : (i : Int) < n := by omega
      obtain ⟨b1, o1, rfl, p1, p2⟩ := (hl.below hb).word hlt
      obtain ⟨b2, o2, rfl, r1, r2⟩ := (hl2.below hb).word hlt
      generalize (l.getD i (0, 0)).1.toNat = q at p1 r1
      generalize (l.getD i (0, 0)).2 = z at p2 r2
      have hqq : ((q : Int) == (q : Int)) = true := by simp
      have hzz : (z == z) = true := by simp
      go_wp2_with fail
      go_quiet (fail)
      go_wp2_with fail
      rename_i nq
      exact ⟨⟨i + 1, by omega, by go_num, below_drewN hb nq, hA, hB⟩, by simp [intOf]; omega⟩
theorem results_cell_obj1 {fn : Func} {p : Tmp} (h : fn.results = #[.cell p 24]) {tmps : Array Value} {w : World} {b : Nat} {x0 x1 x2 x3 : Value} (hp : tmps.getD p undef = .pointer (some ⟨b, 0, none⟩)) (hr : Row w b 24 [x0, x1, x2, x3]) :
    (results fn tmps).run Try.prog w = .ok (.agg #[x0, x1, x2, x3]) w :=
  results_cell_row (P := Try.prog) h tmps w b 24 #[x0, x1, x2, x3] (0, 0) _ hp hr Try.underlying24 rfl (by kernel_rfl)
set_option maxHeartbeats 1600000 in
theorem copy_any (k : Nat) (t : Int) (a : Option Addr) (n c : Nat) (l : List (UInt8 × Int)) (S : List UInt8) (w : World) (hl : Sl w 2 (.slice a n c) n (wcells l)) (hn9 : n ≤ 1048576) :
    Calls Try.prog 11 #[.agg #[.int .u8 (k : Int), .int .i64 t, .slice a n c, .string (str S)]] w fun e w' => ∃ v, e = .returned (.agg #[.int .u8 (k : Int), .int .i64 t, v, .string (str S)]) ∧ Own w' w.heap.size 2 v n (wcells l) ∧ Below w.heap.size w w' := by
  go_enter Try.func11, Try.ntmps11
  go_upto_region 1 with fail
  have hb1 : Below w.heap.size w ((w.alloc (.cells #[.int .u8 (k : Int), .int .i64 t, .slice a n c, .string (str S)] 24)).alloc (.cells #[.int .u8 0, .int .i64 0, .slice none 0 0, .string ⟨#[]⟩] 24)) := ((Below.refl _ _).alloc (Nat.le_refl _) _).alloc (by simp) _
  have hrA := (Row.new w [.int .u8 (k : Int), .int .i64 t, .slice a n c, .string (str S)] 24).alloc (.cells #[.int .u8 0, .int .i64 0, .slice none 0 0, .string ⟨#[]⟩] 24)
  have hrB := Row.new (w.alloc (.cells [.int .u8 (k : Int), .int .i64 t, .slice a n c, .string (str S)].toArray 24)) [.int .u8 0, .int .i64 0, .slice none 0 0, .string ⟨#[]⟩] 24
  rw [World.size_alloc] at hrB
  have hz1 : ((w.alloc (.cells #[.int .u8 (k : Int), .int .i64 t, .slice a n c, .string (str S)] 24)).alloc (.cells #[.int .u8 0, .int .i64 0, .slice none 0 0, .string ⟨#[]⟩] 24)).heap.size = w.heap.size + 2 := by simp
  obtain ⟨B, hB⟩ : ∃ B, B = w.heap.size := ⟨_, rfl⟩
  have hBw : w.heap.size ≤ B := by omega
  rw [← hB] at hrA hrB hz1 ⊢
  generalize hW : (w.alloc (.cells #[.int .u8 (k : Int), .int .i64 t, .slice a n c, .string (str S)] 24)).alloc (.cells #[.int .u8 0, .int .i64 0, .slice none 0 0, .string ⟨#[]⟩] 24) = w1 at hb1 hrA hrB hz1 ⊢
  clear hW hB
  have hzl : B + 2 ≤ w1.heap.size := by omega
  clear hz1
  have c0 := hrA.cell 0
  have c1 := hrA.cell 1
  have c2 := hrA.cell 2
  have c3 := hrA.cell 3
  simp only [List.getElem?_cons_zero, List.getElem?_cons_succ] at c0 c1 c2 c3
  have hrC := Row.new w1 [.int .u8 0, .int .i64 0, .slice none 0 0, .string ⟨#[]⟩] 24
  have hb2 : Below w1.heap.size w1 (w1.alloc (.cells #[.int .u8 0, .int .i64 0, .slice none 0 0, .string ⟨#[]⟩] 24)) := (Below.refl _ _).alloc (Nat.le_refl _) _
  go_upto_region 2 with (refine wpL_storeRow rfl _ _ _ rfl rfl rfl hrC (by kernel_rfl) rfl rfl ?_; intro w3 hg3 hr3)
  have hb3 : Below w1.heap.size w1 w3 := hb2.grown hg3 hb2.size (fun g e => by cases e; exact Nat.le_refl _)
  have hrA3 := hrA.after hb3
  have hrB3 := hrB.after hb3
  have hB3 := hb1.trans (hb3.mono hb1.size)
  have hl3 := hl.below hB3
  obtain ⟨C, hC⟩ : ∃ C, C = w1.heap.size := ⟨_, rfl⟩
  rw [← hC] at hr3 ⊢
  have hCw : w.heap.size ≤ C := by omega
  have hCB : B + 1 < C := by omega
  have hlt3 := hr3.lt
  clear hC hb2 hrC hg3 hb3 hrA hrB c0 c1 c2 c3 hb1 hzl
  have c2 := hr3.cell 2
  have d2 := hrA3.cell 2
  simp only [List.getElem?_cons_zero, List.getElem?_cons_succ] at c2 d2
  go_upto_region 3 with (first
    | (at_builtin; refine wpL_append etW rfl _ _ rfl (Own.nil w3 w3.heap.size 2) rfl hl3 rfl ?_ ?_ ?_ (Nat.le_refl _) ?_
       · intro u hu; obtain ⟨x, _, hx⟩ := List.mem_flatMap.1 hu; simp at hx; rcases hx with rfl | rfl <;> rfl
       · omega
       · simp [maxLen]; omega
       intro v4 w4 ho4 hg4; rw [Nat.zero_add, List.nil_append] at ho4; have hb4 : Below w3.heap.size w3 w4 := below_of_grown0 hg4; obtain ⟨a4, c4, rfl⟩ := ho4.form; have hr4 := hr3.after hb4; have hrB4 := hrB3.after hb4; have hB4 := hB3.trans (hb4.mono hB3.size); clear hg4 hb4 c2 d2)
    | (refine wpL_storeAt rfl _ _ _ rfl (v := .slice a4 n c4) rfl rfl rfl rfl (by kernel_rfl) hr4 rfl ?_; intro w5 hg5 hr5; simp only [List.set_cons_zero, List.set_cons_succ] at hr5; have ho5 := ho4.kept hg5 (own_ne ho4 (by omega)); have hrB5 := hrB4.grown hg5 (by simp; omega); have hB5 := hB4.grown hg5 hB4.size (fun g e => by cases e; exact hCw)))
  go_wp2_with (first | refine wpL_loadRow rfl _ _ rfl rfl hr5 Try.underlying24 rfl (by kernel_rfl) ?_ | (refine wpL_storeRow rfl _ _ _ rfl rfl rfl hrB5 (by kernel_rfl) rfl rfl ?_; intro w6 hg6 hr6))
  have ho6 := ho5.kept hg6 (own_ne ho5 (by omega))
  have hB6 := hB5.grown hg6 hB5.size (fun g e => by cases e; omega)
  try simp only [Exit.inBlock, Exit.then]
  refine bodyPost_ret (results_cell_obj1 rfl rfl hr6) rfl ?_
  exact ⟨_, rfl, ho6.mono (by omega), hB6⟩
end Go.Proofs.Ytgcohalmfigjpaa
