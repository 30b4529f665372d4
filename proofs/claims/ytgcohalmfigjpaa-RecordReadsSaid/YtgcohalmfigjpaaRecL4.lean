/-
  RecordReads, walked.
-/
import Derived.Test.YtgcohalmfigjpaaRecL1
namespace Go.Proofs.Ytgcohalmfigjpaa
open Go.RowKit
set_option linter.unusedVariables false
set_option linter.unusedSimpArgs false

theorem room_front' {w : World} {Bs g off n : Nat} {l : List UInt8} (hn : l.length = n) (h : Sl w 1 (.slice (some ⟨g, off, none⟩) (n + 6) (n + 6)) (n + 6) (bvs (l ++ tailL))) : Sl w 1 (.slice (some ⟨g, off, none⟩) n (n + 6)) n (bvs l) := by
  have h := h.front (m := n) (by omega)
  rw [Nat.mul_one, bvs_take, ← hn, List.take_left, hn] at h
  exact h
set_option maxHeartbeats 8000000 in
theorem recordReads_walk (a : Option Addr) (n c : Nat) (b : List UInt8) (w : World) (hl : Sl w 1 (.slice a n c) n (bvs b)) :
    Calls Try.prog 4 #[.slice a n c] w fun e w' => e = .returned (.bool true) ∧ Below w.heap.size w w' := by
  have HN := Lib.hid hl.len.1
  have hnm := hl.len.2
  go_enter Try.func4, Try.ntmps4
  by_cases hbig : 16384 < n
  · have hbigi : (16384 : Int) < n := by omega
    have hB1 := Below.refl w.heap.size w
    go_wp2_with fail
    refine (works_any w).mono ?_
    rintro e wZ ⟨rfl, hbZ⟩
    go_wp2_with fail
    go_ret
    exact ⟨rfl, (hB1).trans (hbZ.mono (hB1).size)⟩
  have hbigi : ¬ (16384 : Int) < n := by omega
  obtain ⟨K, hK⟩ : ∃ K, K = if rdOk b then (rdK b).toNat else 0 := ⟨_, rfl⟩
  obtain ⟨T, hT⟩ : ∃ T, T = if rdOk b then rdT b else 0 := ⟨_, rfl⟩
  obtain ⟨L, hL⟩ : ∃ L, L = if rdOk b then rdL b else [] := ⟨_, rfl⟩
  obtain ⟨S, hS⟩ : ∃ S, S = if rdOk b then rdS b else [] := ⟨_, rfl⟩
  obtain ⟨N, hN⟩ : ∃ N, N = L.length := ⟨_, rfl⟩
  obtain ⟨E, hE⟩ : ∃ E : Int, E = if rdOk b then 0 else 8 := ⟨_, rfl⟩
  have HI : Hid (RdIs b K T L S N E) := ⟨hK, hT, hL, hS, hN, hE⟩
  clear hK hT hL hS hN hE
  go_wp2_with fail
  refine (roomy_any a n c b w hl (by omega)).mono ?_
  rintro e w1 ⟨g, o, rfl, hi1, hb1⟩
  have hg1 : g < w1.heap.size := hi1.lives g rfl
  have hgw : w.heap.size ≤ g := hi1.lt g rfl
  have hf1 := room_front' (Bs := 0) HN.out hi1.sl
  go_wp2_with fail
  refine (read_p _ n (n + 6) b w1 hf1 (by omega) K T L S N E HI.out).mono ?_
  rintro e w2 ⟨v2, rfl, ho2, hb2⟩
  obtain ⟨a2, c2, rfl⟩ := ho2.form
  have hi2 := hi1.below hb2
  have hB2 := hb1.trans (hb2.mono hb1.size)
  have hnb2 : ∀ g', (Value.slice a2 N c2).ownBlock = some g' → g' ≠ g := fun g' h => by have := ho2.lt g' h; omega
  have hrZ := Row.new w2 [.int .u8 0, .int .i64 0, .slice none 0 0, .string ⟨#[]⟩] 24
  have hbZ : Below w2.heap.size w2 (w2.alloc (.cells #[.int .u8 0, .int .i64 0, .slice none 0 0, .string ⟨#[]⟩] 24)) := (Below.refl _ _).alloc (Nat.le_refl _) _
  have hg2 : g < w2.heap.size := Nat.lt_of_lt_of_le hg1 hb2.size
  clear hi1 hf1 hb1 hb2 hg1
  go_upto_region 5 with (refine wpL_storeRow rfl _ _ _ rfl (cs := [.int .u8 (K : Int), .int .i64 T, .slice a2 N c2, .string (str S)]) rfl rfl hrZ (by kernel_rfl) rfl rfl ?_; intro w3 hg3 hr3)
  have hb3 : Below w2.heap.size w2 w3 := hbZ.grown hg3 hbZ.size (fun g e => by cases e; exact Nat.le_refl _)
  obtain ⟨C, hC⟩ : ∃ C, C = w2.heap.size := ⟨_, rfl⟩
  rw [← hC] at hr3 ⊢
  have hgC : g < C := by omega
  have hi3 := hi2.below hb3
  have ho3 := ho2.sl.below hb3
  have hB3 := hB2.trans (hb3.mono hB2.size)
  have hC3 := hr3.lt
  clear hC hrZ hbZ hg3 hb3 hi2 ho2 hB2 hg2
  go_wp2_with fail
  refine (rread_p a n c b w3 (hl.below hB3) (by omega) K T L S N E HI.out).mono ?_
  rintro e w4 ⟨v4, rfl, ho4, hb4⟩
  obtain ⟨a4, c4, rfl⟩ := ho4.form
  have hr4 := hr3.after hb4
  have hi4 := hi3.below hb4
  have ho34 := ho3.below hb4
  have hB4 := hB3.trans (hb4.mono hB3.size)
  have hnb4 : ∀ g', (Value.slice a4 N c4).ownBlock = some g' → g' ≠ g := fun g' h => by have := ho4.lt g' h; omega
  have hC4 : C < w4.heap.size := Nat.lt_of_lt_of_le hC3 hb4.size
  have hrZ := Row.new w4 [.int .u8 0, .int .i64 0, .slice none 0 0, .string ⟨#[]⟩] 24
  have hbZ : Below w4.heap.size w4 (w4.alloc (.cells #[.int .u8 0, .int .i64 0, .slice none 0 0, .string ⟨#[]⟩] 24)) := (Below.refl _ _).alloc (Nat.le_refl _) _
  clear hr3 hi3 ho3 hB3 hb4 hC3
  go_upto_region 6 with (refine wpL_storeRow rfl _ _ _ rfl (cs := [.int .u8 (K : Int), .int .i64 T, .slice a4 N c4, .string (str S)]) rfl rfl hrZ (by kernel_rfl) rfl rfl ?_; intro w5 hg5 hr5)
  have hb5 : Below w4.heap.size w4 w5 := hbZ.grown hg5 hbZ.size (fun g e => by cases e; exact Nat.le_refl _)
  obtain ⟨D, hD⟩ : ∃ D, D = w4.heap.size := ⟨_, rfl⟩
  rw [← hD] at hr5 ⊢
  have hgD : g < D := by omega
  have hrC := hr4.after hb5
  have hi5 := hi4.below hb5
  have ho35 := ho34.below hb5
  have ho45 := ho4.sl.below hb5
  have hB5 := hB4.trans (hb5.mono hB4.size)
  clear hD hrZ hbZ hg5 hb5 hr4 hi4 ho34 ho4 hB4 hC4
  have hEE : (E == E) = true := by simp
  have d0 := hrC.cell 0
  have d1 := hrC.cell 1
  have d2 := hrC.cell 2
  have d3 := hrC.cell 3
  have p0 := hr5.cell 0
  have p1 := hr5.cell 1
  have p2 := hr5.cell 2
  have p3 := hr5.cell 3
  simp only [List.getElem?_cons_zero, List.getElem?_cons_succ] at d0 d1 d2 d3 p0 p1 p2 p3
  go_wp2_with fail
  refine (same_t K T a2 N c2 a4 c4 L S w5 ho35 ho45).mono ?_
  rintro e w6 ⟨rfl, hb6⟩
  have hrC6 := hrC.after hb6
  have hr6 := hr5.after hb6
  have hi6 := hi5.below hb6
  have ho36 := ho35.below hb6
  have ho46 := ho45.below hb6
  have hB6 := hB5.trans (hb6.mono hB5.size)
  clear d0 d1 d2 d3 p0 p1 p2 p3 hrC hr5 hi5 ho35 ho45 hB5 hb6
  go_wp2_with fail
  refine (kept_any g o a n c b w6 hi6.sl (hl.below hB6) (by omega)).mono ?_
  rintro e w7 ⟨rfl, hb7⟩
  have hrC7 := hrC6.after hb7
  have hr7 := hr6.after hb7
  have hi7 := hi6.below hb7
  have ho37 := ho36.below hb7
  have ho47 := ho46.below hb7
  have hB7 := hB6.trans (hb7.mono hB6.size)
  clear hrC6 hr6 hi6 ho36 ho46 hB6 hb7
  go_wp2_with fail
  go_loopw [8] (fun v8 wr => ∃ (i : Nat) (p : List UInt8), i ≤ n ∧ v8 = .int .i64 i ∧ Own wr w.heap.size 1 (.slice (some ⟨g, o, none⟩) (n + 6) (n + 6)) (n + 6) (bvs p) ∧ Row wr C 24 [.int .u8 (K : Int), .int .i64 T, .slice a2 N c2, .string (str S)] ∧ Row wr D 24 [.int .u8 (K : Int), .int .i64 T, .slice a4 N c4, .string (str S)] ∧ Sl wr 2 (.slice a2 N c2) N (wcells L) ∧ Sl wr 2 (.slice a4 N c4) N (wcells L) ∧ Below w.heap.size w wr) (fun v8 _ => n - (intOf v8).toNat)
  case atStart => exact ⟨0, _, Nat.zero_le _, rfl, hi7, hrC7, hr7, ho37, ho47, hB7⟩
  case round =>
    clear hi7 hrC7 hr7 ho37 ho47 hB7
    obtain ⟨i, p, hi, rfl, hi8, hrC8, hr8, ho38, ho48, hB8⟩ := hrel
    by_cases hin : i = n
    · subst hin
      have d0 := hrC8.cell 0
      have d1 := hrC8.cell 1
      have d2 := hrC8.cell 2
      have d3 := hrC8.cell 3
      have p0 := hr8.cell 0
      have p1 := hr8.cell 1
      have p2 := hr8.cell 2
      have p3 := hr8.cell 3
      simp only [List.getElem?_cons_zero, List.getElem?_cons_succ] at d0 d1 d2 d3 p0 p1 p2 p3
      go_wp2_with fail
      refine (same_t K T a2 N c2 a4 c4 L S wr ho38 ho48).mono ?_
      rintro e w9 ⟨rfl, hb9⟩
      have hB9 := hB8.trans (hb9.mono hB8.size)
      clear d0 d1 d2 d3 p0 p1 p2 p3 hrC8 hr8 hi8 ho38 ho48 hB8 hb9
      go_wp2_with fail
      refine (works_any w9).mono ?_
      rintro e wZ ⟨rfl, hbZ⟩
      go_wp2_with fail
      go_ret
      exact ⟨rfl, (hB9).trans (hbZ.mono (hB9).size)⟩
    · have hlt : i < n := by omega
      have hlt' : (i : Int) < n := by omega
      obtain ⟨_, _, e9, hq⟩ := hi8.sl.byte (k := i) (by omega)
      cases e9
      have hpl := hi8.len.1
      obtain ⟨x, hx⟩ : ∃ x, x = p.getD i 0 := ⟨_, rfl⟩
      rw [← hx] at hq
      have hx9 := x.toNat_lt
      clear hx
      have hxx : Hid ((((x.toNat : Int) + 1) % 256) = ((x + 1).toNat : Int)) := by show _ = _; simp [UInt8.toNat_add]
      have hfz := hi8.free i (by rw [bvs_length]; omega)
      have hg9 := grown_setCell wr g (o + i) (.int .u8 (((x.toNat : Int) + 1) % 256))
      have hi9 := hi8.set i (.int .u8 (((x.toNat : Int) + 1) % 256))
      have HG9 := Lib.hid hg9
      have HI9 := Lib.hid hi9
      clear hg9 hi9
      go_wp2_with fail
      have hg9 := HG9.out
      have hi9 := HI9.out
      generalize wr.setCell ⟨g, o + i, none⟩ (.int .u8 (((x.toNat : Int) + 1) % 256)) = w9 at hg9 hi9 ⊢
      rw [hxx.out, bvs_set] at hi9
      exact ⟨⟨i + 1, _, by omega, by go_num, hi9, hrC8.grown hg9 (by simp; omega), hr8.grown hg9 (by simp; omega), ho38.mods (Mods.grown hg9) (fun g' h e => hnb2 g' h (by cases e; rfl)), ho48.mods (Mods.grown hg9) (fun g' h e => hnb4 g' h (by cases e; rfl)), hB8.grown hg9 hB8.size (fun g' e => by cases e; exact hgw)⟩, by simp [intOf]; omega⟩
theorem recordReads_top (a : Option Addr) (n c : Nat) (b : List UInt8) (w : World) (hb : Sl w 1 (.slice a n c) n (bvs b)) : Calls Try.prog 4 #[.slice a n c] w fun e w' => e = .returned (.bool true) ∧ Below w.heap.size w w' :=
  recordReads_walk a n c b w hb
end Go.Proofs.Ytgcohalmfigjpaa
