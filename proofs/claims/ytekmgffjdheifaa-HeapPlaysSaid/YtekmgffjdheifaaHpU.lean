/-
  Law 24's small helpers, walked: Vast, number, handle, sameList; the document's Copy and Same. Conditions: what comes in reads.
-/
import Derived.Test.YtekmgffjdheifaaHpT
namespace Go.Proofs.Ytekmgffjdheifaa
open Go Go.RowKit
set_option linter.unusedVariables false
set_option linter.unusedSimpArgs false
set_option maxRecDepth 100000

def totO (q : Opn) : Nat := q.o.l.length + q.o.s.length + q.R.length
def Few (L : List Opn) : Prop := L.length ≤ 100 ∧ ∀ i, i < L.length → totO (L.getD i opn0) ≤ 16384
set_option maxHeartbeats 4000000 in
theorem vast_any (a : Option Addr) (n c : Nat) (L : List Opn) (w : World) (h : OpsIn w a n c L) :
    Calls Try.prog 25 #[.slice a n c] w fun e w' => ∃ B, e = .returned (.bool B) ∧ Hid (B = false → Few L) ∧ Below w.heap.size w w' := by
  have HN := Lib.hid h.len
  have hb9 := h.bnd
  have HI := Lib.hid h
  clear h
  by_cases h100 : 100 < n
  · have h100' : (100 : Int) < n := by omega
    go_enter Try.func25, Try.ntmps25
    go_wp2_with fail
    go_ret
    exact ⟨true, rfl, Lib.hid (fun h => by cases h), Below.refl _ _⟩
  have h100' : (n : Int) ≤ 100 := by omega
  have hn100 : n ≤ 100 := by omega
  go_enter Try.func25, Try.ntmps25
  go_wp2_with fail
  go_loopw [3, 4] (fun v3 v4 wr => ∃ i s : Nat, i ≤ n ∧ v4 = .int .i64 (i : Nat) ∧ v3 = .int .i64 (s : Nat) ∧ s ≤ 65536 * i ∧ Below w.heap.size w wr ∧ Hid (∀ j, j < i → min (totO (L.getD j opn0)) 65536 ≤ s)) (fun _ v4 _ => n - (intOf v4).toNat)
  case atStart => exact ⟨0, 0, Nat.zero_le _, rfl, rfl, Nat.zero_le _, Below.refl _ _, Lib.hid (fun j hj => by omega)⟩
  case round =>
    obtain ⟨i, s, hi, rfl, rfl, hs, hb, HT⟩ := hrel
    by_cases hin : i = n
    · subst hin
      go_wp2_with fail
      go_ret
      refine ⟨decide (16384 < (s : Int)), rfl, Lib.hid (fun hB => ⟨by rw [HN.out]; exact hn100, fun j hj => ?_⟩), hb⟩
      have := HT.out j (by rw [← HN.out]; exact hj)
      have := of_decide_eq_false hB
      omega
    have hlt : i < n := by omega
    have hlt' : (i : Int) < n := by omega
    obtain ⟨b1, o1, cs, aO, nO, cO, aR, nR, cR, rfl, hq, hc⟩ := HI.out.at_ i hlt
    obtain ⟨cs2, hob⟩ := hq.ob
    have hT2 : totO (L.getD i opn0) = nO + (L.getD i opn0).o.s.length + nR := by
      unfold totO
      rw [show (L.getD i opn0) = L.getD i ⟨0, 0, 0, noOb, (0, 0), []⟩ from rfl, hob.len, hq.lenR]
    have hsr := hob.sr
    have hnr := hob.nr
    have hrr := hq.rR
    have hr47 := reach47
    rw [hq.cs] at hc
    have hbl : b1 < w.heap.size := lt_of_cell (hc 0 (by decide))
    have d5 := (hb.cell (p := ⟨b1, o1 + i * 10 + 5, none⟩) hbl).trans (hc 5 (by decide))
    have d6 := (hb.cell (p := ⟨b1, o1 + i * 10 + 6, none⟩) hbl).trans (hc 6 (by decide))
    have d9 := (hb.cell (p := ⟨b1, o1 + i * 10 + 9, none⟩) hbl).trans (hc 9 (by decide))
    simp only [List.getElem?_cons_zero, List.getElem?_cons_succ] at d5 d6 d9
    change totO (L.getD i opn0) = nO + (L.getD i ⟨0, 0, 0, noOb, (0, 0), []⟩).o.s.length + nR at hT2
    have hsz : (str (L.getD i ⟨0, 0, 0, noOb, (0, 0), []⟩).o.s).size = (L.getD i ⟨0, 0, 0, noOb, (0, 0), []⟩).o.s.length := str_size _
    generalize hst : str (L.getD i ⟨0, 0, 0, noOb, (0, 0), []⟩).o.s = st at d6 hsz
    generalize (L.getD i ⟨0, 0, 0, noOb, (0, 0), []⟩).o.s.length = ns at hsz hT2 hsr
    have HT2 := Lib.hid hT2
    clear hq hob hc hst hT2 hbl
    have hnO : nO ≤ 140737488355328 := by omega
    have hnS : ns ≤ 140737488355328 := by omega
    have hnR : nR ≤ 140737488355328 := by omega
    clear hnr hsr hrr hr47
    go_wp2_with fail
    go_quiet (fail)
    rename_i nq
    go_wp2_with fail
    refine ⟨⟨i + 1, s + min (nO + ns + nR) 65536, by omega, by go_num, by congr 1; omega, by omega, below_drewN hb nq, Lib.hid (fun j hj => ?_)⟩, by simp [intOf]; omega⟩
    by_cases hji : j = i
    · subst hji
      rw [HT2.out]
      omega
    · have := HT.out j (by omega)
      omega
theorem number_any (z : Int) (w : World) : Calls Try.prog 24 #[.int .i64 z] w fun e w' => e = .returned (.agg #[.int .u8 1, .int .i64 z]) ∧ Below w.heap.size w w' := by
  have hb1 : Below w.heap.size w (w.alloc (.cells #[.int .u8 0, .int .i64 0] 47)) := (Below.refl _ _).alloc (Nat.le_refl _) _
  have hr := Row.new w [.int .u8 0, .int .i64 0] 47
  go_enter Try.func24, Try.ntmps24
  go_wp2_with (refine wpL_storeRow rfl _ _ _ rfl (cs := [.int .u8 1, .int .i64 z]) rfl rfl hr (by kernel_rfl) rfl rfl ?_; intro w6 hg6 hr6)
  try simp only [Exit.inBlock, Exit.then]
  refine bodyPost_ret (results_cell_row Try.results24 _ _ w.heap.size 47 _ (0, 0) _ rfl hr6 Try.underlying47 rfl (by kernel_rfl)) rfl ?_
  exact ⟨rfl, below_grown hb1 hg6 (Nat.le_refl _) hb1.size⟩
theorem handle_any (z : Int) (w : World) : Calls Try.prog 42 #[.int .i64 z] w fun e w' => e = .returned (.agg #[.int .u8 2, .int .i64 z]) ∧ Below w.heap.size w w' := by
  have hb1 : Below w.heap.size w (w.alloc (.cells #[.int .u8 0, .int .i64 0] 47)) := (Below.refl _ _).alloc (Nat.le_refl _) _
  have hr := Row.new w [.int .u8 0, .int .i64 0] 47
  go_enter Try.func42, Try.ntmps42
  go_wp2_with (refine wpL_storeRow rfl _ _ _ rfl (cs := [.int .u8 2, .int .i64 z]) rfl rfl hr (by kernel_rfl) rfl rfl ?_; intro w6 hg6 hr6)
  try simp only [Exit.inBlock, Exit.then]
  refine bodyPost_ret (results_cell_row Try.results42 _ _ w.heap.size 47 _ (0, 0) _ rfl hr6 Try.underlying47 rfl (by kernel_rfl)) rfl ?_
  exact ⟨rfl, below_grown hb1 hg6 (Nat.le_refl _) hb1.size⟩
set_option maxHeartbeats 1600000 in
theorem same_t (k : Nat) (t : Int) (a : Option Addr) (n c : Nat) (a2 : Option Addr) (c2 : Nat) (l : List (UInt8 × Int)) (S : List UInt8) (w : World) (hl : Sl w 2 (.slice a n c) n (wcells l)) (hl2 : Sl w 2 (.slice a2 n c2) n (wcells l)) :
    Calls Try.prog 21 #[.agg #[.int .u8 (k : Int), .int .i64 t, .slice a n c, .string (str S)], .agg #[.int .u8 (k : Int), .int .i64 t, .slice a2 n c2, .string (str S)]] w fun e w' => e = .returned (.bool true) ∧ Below w.heap.size w w' := by
  have hn := hl.wordLen.2
  go_enter Try.func21, Try.ntmps21
  have hb1 : Below w.heap.size w ((w.alloc (.cells #[.int .u8 (k : Int), .int .i64 t, .slice a n c, .string (str S)] 25)).alloc (.cells #[.int .u8 (k : Int), .int .i64 t, .slice a2 n c2, .string (str S)] 25)) := ((Below.refl _ _).alloc (Nat.le_refl _) _).alloc (by simp) _
  have hrA := (Row.new w [.int .u8 (k : Int), .int .i64 t, .slice a n c, .string (str S)] 25).alloc (.cells #[.int .u8 (k : Int), .int .i64 t, .slice a2 n c2, .string (str S)] 25)
  have hrB := Row.new (w.alloc (.cells [.int .u8 (k : Int), .int .i64 t, .slice a n c, .string (str S)].toArray 25)) [.int .u8 (k : Int), .int .i64 t, .slice a2 n c2, .string (str S)] 25
  rw [World.size_alloc] at hrB
  have hkk : ((k : Int) == (k : Int)) = true := by simp
  have htt : (t == t) = true := by simp
  have hss : ((str S).toList == (str S).toList) = true := by simp
  have hnn : ((n : Int) == (n : Int)) = true := by simp
  go_wp2_with fail
  go_loopw [5] (fun v5 wr => ∃ i : Nat, i ≤ n ∧ v5 = .int .i64 i ∧ Below w.heap.size w wr ∧ Row wr w.heap.size 25 [.int .u8 (k : Int), .int .i64 t, .slice a n c, .string (str S)] ∧ Row wr (w.heap.size + 1) 25 [.int .u8 (k : Int), .int .i64 t, .slice a2 n c2, .string (str S)]) (fun v5 _ => n - (intOf v5).toNat)
  case atStart => exact ⟨0, Nat.zero_le _, rfl, hb1, hrA, hrB⟩
  case round =>
    obtain ⟨i, hi, rfl, hb, hA, hB⟩ := hrel
    have c1 := hA.cell 2
    have c2' := hB.cell 2
    simp only [List.getElem?_cons_zero, List.getElem?_cons_succ] at c1 c2'
    by_cases hin : i = n
    · subst hin
      go_wp2_with fail
      go_ret
      exact ⟨rfl, hb⟩
    · have hlt : i < n := by omega
      have hlt' : (i : Int) < n := by omega
      obtain ⟨b1, o1, rfl, p1, p2⟩ := (hl.below hb).word hlt
      obtain ⟨b2, o2, rfl, r1, r2⟩ := (hl2.below hb).word hlt
      generalize (l.getD i (0, 0)).1.toNat = q at p1 r1
      generalize (l.getD i (0, 0)).2 = z at p2 r2
      have hqq : ((q : Int) == (q : Int)) = true := by simp
      have hzz : (z == z) = true := by simp
      go_wp2_with fail
      go_quiet (fail)
      go_wp2_with fail
      rename_i nq
      exact ⟨⟨i + 1, by omega, by go_num, below_drewN hb nq, hA, hB⟩, by simp [intOf]; omega⟩
set_option maxHeartbeats 1600000 in
theorem copyB_any (k : Nat) (t : Int) (a : Option Addr) (n c : Nat) (l : List (UInt8 × Int)) (S : List UInt8) (w : World) (hl : Sl w 2 (.slice a n c) n (wcells l)) (hn9 : n ≤ 1073741824) :
    Calls Try.prog 15 #[.agg #[.int .u8 (k : Int), .int .i64 t, .slice a n c, .string (str S)]] w fun e w' => ∃ v, e = .returned (.agg #[.int .u8 (k : Int), .int .i64 t, v, .string (str S)]) ∧ Own w' w.heap.size 2 v n (wcells l) ∧ Below w.heap.size w w' := by
  go_enter Try.func15, Try.ntmps15
  go_upto_region 1 with fail
  have hb1 : Below w.heap.size w ((w.alloc (.cells #[.int .u8 (k : Int), .int .i64 t, .slice a n c, .string (str S)] 25)).alloc (.cells #[.int .u8 0, .int .i64 0, .slice none 0 0, .string ⟨#[]⟩] 25)) := ((Below.refl _ _).alloc (Nat.le_refl _) _).alloc (by simp) _
  have hrA := (Row.new w [.int .u8 (k : Int), .int .i64 t, .slice a n c, .string (str S)] 25).alloc (.cells #[.int .u8 0, .int .i64 0, .slice none 0 0, .string ⟨#[]⟩] 25)
  have hrB := Row.new (w.alloc (.cells [.int .u8 (k : Int), .int .i64 t, .slice a n c, .string (str S)].toArray 25)) [.int .u8 0, .int .i64 0, .slice none 0 0, .string ⟨#[]⟩] 25
  rw [World.size_alloc] at hrB
  have hz1 : ((w.alloc (.cells #[.int .u8 (k : Int), .int .i64 t, .slice a n c, .string (str S)] 25)).alloc (.cells #[.int .u8 0, .int .i64 0, .slice none 0 0, .string ⟨#[]⟩] 25)).heap.size = w.heap.size + 2 := by simp
  obtain ⟨B, hB⟩ : ∃ B, B = w.heap.size := ⟨_, rfl⟩
  have hBw : w.heap.size ≤ B := by omega
  rw [← hB] at hrA hrB hz1 ⊢
  generalize hW : (w.alloc (.cells #[.int .u8 (k : Int), .int .i64 t, .slice a n c, .string (str S)] 25)).alloc (.cells #[.int .u8 0, .int .i64 0, .slice none 0 0, .string ⟨#[]⟩] 25) = w1 at hb1 hrA hrB hz1 ⊢
  clear hW hB
  have hzl : B + 2 ≤ w1.heap.size := by omega
  clear hz1
  have c0 := hrA.cell 0
  have c1 := hrA.cell 1
  have c2 := hrA.cell 2
  have c3 := hrA.cell 3
  simp only [List.getElem?_cons_zero, List.getElem?_cons_succ] at c0 c1 c2 c3
  have hrC := Row.new w1 [.int .u8 0, .int .i64 0, .slice none 0 0, .string ⟨#[]⟩] 25
  have hb2 : Below w1.heap.size w1 (w1.alloc (.cells #[.int .u8 0, .int .i64 0, .slice none 0 0, .string ⟨#[]⟩] 25)) := (Below.refl _ _).alloc (Nat.le_refl _) _
  go_upto_region 2 with (refine wpL_storeRow rfl _ _ _ rfl rfl rfl hrC (by kernel_rfl) rfl rfl ?_; intro w3 hg3 hr3)
  have hb3 : Below w1.heap.size w1 w3 := hb2.grown hg3 hb2.size (fun g e => by cases e; exact Nat.le_refl _)
  have hrA3 := hrA.after hb3
  have hrB3 := hrB.after hb3
  have hB3 := hb1.trans (hb3.mono hb1.size)
  have hl3 := hl.below hB3
  obtain ⟨C, hC⟩ : ∃ C, C = w1.heap.size := ⟨_, rfl⟩
  rw [← hC] at hr3 ⊢
  have hCw : w.heap.size ≤ C := by omega
  have hCB : B + 1 < C := by omega
  have hlt3 := hr3.lt
  clear hC hb2 hrC hg3 hb3 hrA hrB c0 c1 c2 c3 hb1 hzl
  have c2 := hr3.cell 2
  have d2 := hrA3.cell 2
  simp only [List.getElem?_cons_zero, List.getElem?_cons_succ] at c2 d2
  go_upto_region 3 with (first
    | (at_builtin; refine wpL_append etW rfl _ _ rfl (Own.nil w3 w3.heap.size 2) rfl hl3 rfl ?_ ?_ ?_ (Nat.le_refl _) ?_
       · intro u hu; obtain ⟨x, _, hx⟩ := List.mem_flatMap.1 hu; simp at hx; rcases hx with rfl | rfl <;> rfl
       · omega
       · simp [maxLen]; omega
       intro v4 w4 ho4 hg4; rw [Nat.zero_add, List.nil_append] at ho4; have hb4 : Below w3.heap.size w3 w4 := below_of_grown0 hg4; obtain ⟨a4, c4, rfl⟩ := ho4.form; have hr4 := hr3.after hb4; have hrB4 := hrB3.after hb4; have hB4 := hB3.trans (hb4.mono hB3.size); clear hg4 hb4 c2 d2)
    | (refine wpL_storeAt rfl _ _ _ rfl (v := .slice a4 n c4) rfl rfl rfl rfl (by kernel_rfl) hr4 rfl ?_; intro w5 hg5 hr5; simp only [List.set_cons_zero, List.set_cons_succ] at hr5; have ho5 := ho4.kept hg5 (own_ne ho4 (by omega)); have hrB5 := hrB4.grown hg5 (by simp; omega); have hB5 := hB4.grown hg5 hB4.size (fun g e => by cases e; exact hCw)))
  go_wp2_with (first | refine wpL_loadRow rfl _ _ rfl rfl hr5 Try.underlying25 rfl (by kernel_rfl) ?_ | (refine wpL_storeRow rfl _ _ _ rfl rfl rfl hrB5 (by kernel_rfl) rfl rfl ?_; intro w6 hg6 hr6))
  have ho6 := ho5.kept hg6 (own_ne ho5 (by omega))
  have hB6 := hB5.grown hg6 hB5.size (fun g e => by cases e; omega)
  try simp only [Exit.inBlock, Exit.then]
  refine bodyPost_ret (results_cell_obj1 rfl rfl hr6) rfl ?_
  exact ⟨_, rfl, ho6.mono (by omega), hB6⟩
theorem copy_any (k : Nat) (t : Int) (a : Option Addr) (n c : Nat) (l : List (UInt8 × Int)) (S : List UInt8) (w : World) (hl : Sl w 2 (.slice a n c) n (wcells l)) (hn9 : n ≤ 1048576) :
    Calls Try.prog 15 #[.agg #[.int .u8 (k : Int), .int .i64 t, .slice a n c, .string (str S)]] w fun e w' => ∃ v, e = .returned (.agg #[.int .u8 (k : Int), .int .i64 t, v, .string (str S)]) ∧ Own w' w.heap.size 2 v n (wcells l) ∧ Below w.heap.size w w' :=
  copyB_any k t a n c l S w hl (by omega)
set_option maxHeartbeats 1600000 in
theorem sameList_t (l : List Int) (a : Option Addr) (n c : Nat) (a2 : Option Addr) (c2 : Nat) (w : World) (hl : Sl w 1 (.slice a n c) n (ints l)) (hl2 : Sl w 1 (.slice a2 n c2) n (ints l)) :
    Calls Try.prog 30 #[.slice a n c, .slice a2 n c2] w fun e w' => e = .returned (.bool true) ∧ Below w.heap.size w w' := by
  have hn := hl.cap
  have hn9 : n ≤ 9223372036854775807 := by omega
  have hll : l.length = n := by have := hl.1; rw [ints_length] at this; omega
  have hnn : ((n : Int) != (n : Int)) = false := by simp
  clear hn
  go_enter Try.func30, Try.ntmps30
  go_wp2_with fail
  go_loopw [5] (fun v5 wr => ∃ i : Nat, i ≤ n ∧ v5 = .int .i64 i ∧ Below w.heap.size w wr) (fun v5 _ => n - (intOf v5).toNat)
  case atStart => exact ⟨0, Nat.zero_le _, rfl, Below.refl _ _⟩
  case round =>
    obtain ⟨i, hi, rfl, hb⟩ := hrel
    by_cases hin : i = n
    · subst hin
      go_wp2_with fail
      go_ret
      exact ⟨rfl, hb⟩
    · have hlt : i < n := by omega
      have hlt' : (i : Int) < n := by omega
      obtain ⟨b1, o1, u1, rfl, e1, p1⟩ := (hl.below hb).at (k := i) (by omega)
      obtain ⟨b2, o2, u2, rfl, e2, p2⟩ := (hl2.below hb).at (k := i) (by omega)
      rw [ints_get l i (by omega)] at e1 e2
      cases e1
      cases e2
      generalize l.getD i 0 = z at p1 p2
      have hzz : (z != z) = false := by simp
      go_wp2_with fail
      go_quiet (fail)
      rename_i nq
      go_wp2_with fail
      exact ⟨⟨i + 1, by omega, by go_num, below_drewN hb nq⟩, by simp [intOf]; omega⟩
end Go.Proofs.Ytekmgffjdheifaa
