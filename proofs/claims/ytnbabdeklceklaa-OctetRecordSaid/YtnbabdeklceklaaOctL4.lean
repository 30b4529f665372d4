/-
  OctetFields, walked.
-/
import Derived.Test.YtnbabdeklceklaaOctW
import Derived.Test.YtnbabdeklceklaaOctRef
import Derived.Test.YtnbabdeklceklaaCanon
namespace Go.Proofs.Ytnbabdeklceklaa
open Go.RowKit
set_option linter.unusedVariables false
set_option linter.unusedSimpArgs false

theorem conv_later {w : World} {a : Option Addr} {n c : Nat} {l : List UInt8} (h : Sl w 1 (.slice a n c) n (bvs l)) : ∀ x : Later Rb w, (convert 22 9 (.slice a n c)).run Try.prog x.w = .ok (.string (str l)) x.w :=
  fun x => run_conv_string x.w Try.underlying22 Try.underlying5 Try.underlying9 (h.later x)

theorem far_ex {w : World} {base size n : Nat} {v : Value} (h : ∃ xs, Own w base size v n xs) {b o : Nat} {u : Value} (hb : b < base) : ∃ xs, Own (w.setCell ⟨b, o, none⟩ u) base size v n xs := h.imp fun _ h => h.far hb u
set_option maxRecDepth 100000 in
set_option maxHeartbeats 2000000 in
theorem fields_walk (a : Option Addr) (n c : Nat) (l : List UInt8) (at_ k : Int) (x : Nat) (hx : x < 18446744073709551616) (w : World) (hl : Sl w 1 (.slice a n c) n (bvs l)) :
    Calls Try.prog 3 #[.slice a n c, .int .i64 at_, .int .i64 k, .int .u64 x] w fun e w' => e = .returned (.bool true) ∧ Below w.heap.size w w' := by
  have hn := hl.len
  have HL := Lib.hid hl
  clear hl
  by_cases h1 : 16384 < n
  · have h1' : (16384 : Int) < n := by omega
    go_enter Try.func3, Try.ntmps3
    go_wp2_with fail
    refine (works_any w).mono ?_
    rintro e w1 ⟨rfl, hb⟩
    go_wp2_with fail
    go_ret
    exact ⟨rfl, hb⟩
  have h1' : ¬ (16384 : Int) < n := by omega
  by_cases h2 : 32768 < k ∧ k ≤ 1048576
  · obtain ⟨h2, h3⟩ := h2
    go_enter Try.func3, Try.ntmps3
    go_wp2_with fail
    refine (works_any w).mono ?_
    rintro e w1 ⟨rfl, hb⟩
    go_wp2_with fail
    go_ret
    exact ⟨rfl, hb⟩
  have hspread := spread_any a n c l w 119 HL.out (by omega)
  rw [show (((119 : UInt8).toNat : Nat) : Int) = 119 from rfl] at hspread
  have HSP := Lib.hid hspread
  clear hspread
  have hcase : k ≤ 32768 ∨ 32768 < k ∧ 1048576 < k := by omega
  clear h2
  rcases hcase with h2 | ⟨h2, h3⟩
  all_goals
    go_enter Try.func3, Try.ntmps3
    go_wp2_with fail
    refine HSP.out.mono ?_
    rintro e w1 ⟨g, off, c1, rfl, hc1, ho1, hb1⟩
    have hi1 : Sl w1 1 (.slice (some ⟨g, off, none⟩) n c1) n (bvs l) := by
      have := ho1.sl.front (m := n) (by omega)
      rw [bvs_take, Nat.mul_one, ← hn.1, List.take_left] at this
      rwa [hn.1] at this
    have hg1 := ho1.lives g (by simp [Value.ownBlock])
    go_wp2_with fail
    refine (get_any _ n c1 l _ at_ k hi1 (by omega)).mono ?_
    rintro e w2 ⟨rfl, hb2⟩
    have ho2 := ho1.below hb2
    have hi2 := hi1.below hb2
    have hB2 := hb1.trans (hb2.mono hb1.size)
    go_wp2_with fail
    refine (rget_any a n c l w2 at_ k (HL.out.below hB2) (by omega)).mono ?_
    rintro e w3 ⟨rfl, rfl⟩
    go_wp2_with fail
    refine (put_any _ n c1 l _ x k hi2 (by omega) hx).mono ?_
    rintro e w4 ⟨v4, rfl, hp4, hb4⟩
    obtain ⟨a4, c4, rfl⟩ := hp4.form
    have ho4 := ho2.below hb4
    have hi4 := hi2.below hb4
    have hB4 := hB2.trans (hb4.mono hB2.size)
    go_wp2_with fail
    refine (cut_any _ n c1 l _ at_ k hi4 (by omega)).mono ?_
    rintro e w5 ⟨v5, rfl, hc5, hb5⟩
    obtain ⟨a5, c5, rfl⟩ := hc5.form
    have ho5 := ho4.below hb5
    have hi5 := hi4.below hb5
    have hp5 := hp4.below hb5
    have hB5 := hB4.trans (hb5.mono hB4.size)
    go_wp2_with fail
    refine (rcut_any a n c l _ at_ k (HL.out.below hB5) (by omega)).mono ?_
    rintro e w6 ⟨v6, rfl, hd6, hb6⟩
    obtain ⟨a6, c6, rfl⟩ := hd6.form
    have ho6 := ho5.below hb6
    have hi6 := hi5.below hb6
    have hp6 := hp5.below hb6
    have hc6 := hc5.below hb6
    have hB6 := hB5.trans (hb6.mono hB5.size)
    go_wp2_with fail
    refine (fill_any _ n c1 l _ k hi6).mono ?_
    rintro e w7 ⟨v7, rfl, hl7, hb7⟩
    obtain ⟨a7, c7, rfl⟩ := hl7.form
    have ho7 := ho6.below hb7
    have hp7 := hp6.below hb7
    have hc7 := hc6.below hb7
    have hd7 := hd6.below hb7
    have hB7 := hB6.trans (hb7.mono hB6.size)
    go_wp2_with fail
    refine (rfill_any a n c l _ k (HL.out.below hB7)).mono ?_
    rintro e w8 ⟨v8, rfl, hm8, hb8⟩
    obtain ⟨a8, c8, rfl⟩ := hm8.form
    have ho8 := ho7.below hb8
    have hp8 := hp7.below hb8
    have hc8 := hc7.below hb8
    have hd8 := hd7.below hb8
    have hl8 := hl7.below hb8
    have hB8 := hB7.trans (hb8.mono hB7.size)
    go_wp2_with fail
    have hcv := conv_later (w := w8.drew) hp8.sl
    refine wp_region_lex Rb Rb_refl Rb_trans [0,0,0,0,0,0,0,0,0,0,0,0,0,0,1,0,0,0,0,0,0,0,0,0,0,0,0,0,0,0,0,0,0,0,0,0,0,0,0,0,0,0] (by kernel_rfl) (by kernel_rfl) ?_
    refine wpCan_seg 14 (by kernel_rfl) ?_
    simp only [List.zip_cons_cons, List.zip_nil_left, List.take_succ_cons, List.take_zero, List.drop_succ_cons, List.drop_zero, List.map_cons, List.map_nil]
    repeat (go_big_quiet_step (fail))
    refine wpQuiet_nil ?_
    refine wpCan_list (k := 0) (fun K hK => ?_) (fun _ => Rb_refl _)
    go_wp2_with fail
    refine (rput_any a n c l _ x k (HL.out.below hB8.drew) (by omega) hx).mono ?_
    rintro e w9 ⟨v9, rfl, hq9, hb9⟩
    obtain ⟨a9, c9, rfl⟩ := hq9.form
    go_wp2_with fail
    refine hK _ _ (fun _ => hb9) ?_
    clear hK K hcv
    replace hc8 := hc8.drew.below hb9
    replace hd8 := hd8.drew.below hb9
    replace hl8 := hl8.drew.below hb9
    replace hm8 := hm8.drew.below hb9
    replace ho8 := ho8.drew.below hb9
    replace hp8 := hp8.drew.below hb9
    have hB9 := hB8.drew.trans (hb9.mono hB8.size)
    have k1 := conv_later hq9.sl
    have k2 := conv_later hc8.sl
    have k3 := conv_later hd8.sl
    have k4 := conv_later hl8.sl
    have k5 := conv_later hm8.sl
    refine wpCan_seg 27 (by kernel_rfl) ?_
    simp only [List.zip_cons_cons, List.zip_nil_left, List.take_succ_cons, List.take_zero, List.drop_succ_cons, List.drop_zero, List.map_cons, List.map_nil]
    repeat (go_big_quiet_step (fail))
    refine wpQuiet_nil ?_
    unfold wpCan
    clear k1 k2 k3 k4 k5
    go_wp2_with fail
    have lhp8 : ∀ b, (Value.slice a4 (putL l x k).length c4).ownBlock = some b → b < w4.heap.size := hp4.lives
    have lhc8 : ∀ b, (Value.slice a5 (cutL l at_ k).length c5).ownBlock = some b → b < w5.heap.size := hc5.lives
    have lhl8 : ∀ b, (Value.slice a7 (fillL l k).length c7).ownBlock = some b → b < w7.heap.size := hl7.lives
    have hs2 := hb2.size
    have hs4 := hb4.size
    have hs5 := hb5.size
    have hs6 := hb6.size
    have hs1 := hb1.size
    obtain ⟨I, hIe⟩ : ∃ I, I = bvs (l ++ List.replicate 16 119) := ⟨_, rfl⟩
    rw [← hIe] at ho8
    replace hIe := Lib.hid hIe
    have hI := ho8
    have hB := hB9
    clear hb2 hb4 hb5 hb6 hb7 hb8 hb9 hB2 hB4 hB5 hB6 hB7 hB8 hB9 ho1 ho2 ho4 ho5 ho6 ho7 ho8 hi1 hi2 hi4 hi5 hi6 hp4 hp5 hp6 hp7 hc5 hc6 hc7 hd6 hd7 hd8 hl7 hm8 hq9 hb1 HSP
    replace hp8 : ∃ xs, Own w9 w2.heap.size 1 (.slice a4 (putL l x k).length c4) (putL l x k).length xs := ⟨_, hp8⟩
    replace hc8 : ∃ xs, Own w9 w4.heap.size 1 (.slice a5 (cutL l at_ k).length c5) (cutL l at_ k).length xs := ⟨_, hc8⟩
    replace hl8 : ∃ xs, Own w9 w6.heap.size 1 (.slice a7 (fillL l k).length c7) (fillL l k).length xs := ⟨_, hl8⟩
    generalize (putL l x k).length = np at *
    generalize (cutL l at_ k).length = nc at *
    generalize (fillL l k).length = nl at *
    go_loopw [23] (fun v wr => ∃ i : Nat, i ≤ np ∧ v = .int .i64 i ∧ (∃ xs, Own wr w2.heap.size 1 (.slice a4 np c4) np xs) ∧ Own wr w.heap.size 1 (.slice (some ⟨g, off, none⟩) (n + 16) c1) (n + 16) I ∧ Below w.heap.size w wr ∧ (∃ xs, Own wr w4.heap.size 1 (.slice a5 nc c5) nc xs) ∧ (∃ xs, Own wr w6.heap.size 1 (.slice a7 nl c7) nl xs)) (fun v _ => np - (intOf v).toNat)
    case atStart => exact ⟨0, Nat.zero_le _, rfl, hp8, hI, hB, hc8, hl8⟩
    case round =>
      obtain ⟨i, hi, rfl, ⟨xs, hx⟩, hI, hB, hc8, hl8⟩ := hrel
      by_cases hlt : i = np
      · subst hlt
        clear hx
        go_wp2_with fail
        go_loopw [24] (fun v wr => ∃ i : Nat, i ≤ nc ∧ v = .int .i64 i ∧ (∃ xs, Own wr w4.heap.size 1 (.slice a5 nc c5) nc xs) ∧ Own wr w.heap.size 1 (.slice (some ⟨g, off, none⟩) (n + 16) c1) (n + 16) I ∧ Below w.heap.size w wr ∧ (∃ xs, Own wr w6.heap.size 1 (.slice a7 nl c7) nl xs)) (fun v _ => nc - (intOf v).toNat)
        case atStart => exact ⟨0, Nat.zero_le _, rfl, hc8, hI, hB, hl8⟩
        case round =>
          obtain ⟨i, hi, rfl, ⟨xs, hx⟩, hI, hB, hl8⟩ := hrel
          by_cases hlt : i = nc
          · subst hlt
            clear hx
            go_wp2_with fail
            go_loopw [25] (fun v wr => ∃ i : Nat, i ≤ nl ∧ v = .int .i64 i ∧ (∃ xs, Own wr w6.heap.size 1 (.slice a7 nl c7) nl xs) ∧ Own wr w.heap.size 1 (.slice (some ⟨g, off, none⟩) (n + 16) c1) (n + 16) I ∧ Below w.heap.size w wr) (fun v _ => nl - (intOf v).toNat)
            case atStart => exact ⟨0, Nat.zero_le _, rfl, hl8, hI, hB⟩
            case round =>
              obtain ⟨i, hi, rfl, ⟨xs, hx⟩, hI, hB⟩ := hrel
              by_cases hlt : i = nl
              · subst hlt
                clear hx
                go_wp2_with fail
                rw [hIe.out] at hI
                have hI' := hI.sl
                obtain ⟨_, _, _, he, hcc, _, _⟩ := id hI'
                cases he
                have hI2 : Sl wr 1 (.slice (some ⟨g, off, none⟩) (n + 16) c1) (n + 16) (bvs (l ++ List.replicate 16 119)) := hI'
                have hheld := held_any g off n c1 a c l wr 119 hI2 (HL.out.below hB) (by omega)
                rw [show (((119 : UInt8).toNat : Nat) : Int) = 119 from rfl] at hheld
                refine hheld.mono ?_
                rintro e w9 ⟨rfl, hb9⟩
                replace hB := hB.trans (hb9.mono hB.size)
                go_wp2_with fail
                refine (works_any _).mono ?_
                rintro e w10 ⟨rfl, hb10⟩
                go_wp2_with fail
                go_ret
                exact ⟨rfl, hB.trans (hb10.mono hB.size)⟩
              · have hlt' : (i : Int) < nl := by omega
                obtain ⟨gp, op, cp, he, hbase, hgl, _, _, hxl⟩ := hx.open (by omega) (by decide)
                cases he
                have h1 : ∃ u, wr.cell? ⟨gp, op + i, none⟩ = some u := ⟨_, (hx.get i (by omega)).trans (List.getElem?_eq_getElem (by omega))⟩
                have h2 := hx.free i (by omega)
                have hgp := lhl8 gp (by simp [Value.ownBlock])
                obtain ⟨u, h1⟩ := h1
                clear hxl
                go_wp2_with fail
                refine ⟨⟨i + 1, by omega, rfl, ⟨_, hx.set i _⟩, hI.other (by omega) _, hB.setCell (p := ⟨gp, op + i, none⟩) (by show w.heap.size ≤ gp; omega) _⟩, by simp [intOf]; omega⟩
          · have hlt' : (i : Int) < nc := by omega
            obtain ⟨gp, op, cp, he, hbase, hgl, _, _, hxl⟩ := hx.open (by omega) (by decide)
            cases he
            have h1 : ∃ u, wr.cell? ⟨gp, op + i, none⟩ = some u := ⟨_, (hx.get i (by omega)).trans (List.getElem?_eq_getElem (by omega))⟩
            have h2 := hx.free i (by omega)
            have hgp := lhc8 gp (by simp [Value.ownBlock])
            obtain ⟨u, h1⟩ := h1
            clear hxl
            go_wp2_with fail
            refine ⟨⟨i + 1, by omega, rfl, ⟨_, hx.set i _⟩, hI.other (by omega) _, hB.setCell (p := ⟨gp, op + i, none⟩) (by show w.heap.size ≤ gp; omega) _, far_ex hl8 (by omega)⟩, by simp [intOf]; omega⟩
      · have hlt' : (i : Int) < np := by omega
        obtain ⟨gp, op, cp, he, hbase, hgl, _, _, hxl⟩ := hx.open (by omega) (by decide)
        cases he
        have h1 : ∃ u, wr.cell? ⟨gp, op + i, none⟩ = some u := ⟨_, (hx.get i (by omega)).trans (List.getElem?_eq_getElem (by omega))⟩
        have h2 := hx.free i (by omega)
        have hgp := lhp8 gp (by simp [Value.ownBlock])
        obtain ⟨u, h1⟩ := h1
        clear hxl
        go_wp2_with fail
        refine ⟨⟨i + 1, by omega, rfl, ⟨_, hx.set i _⟩, hI.other (by omega) _, hB.setCell (p := ⟨gp, op + i, none⟩) (by show w.heap.size ≤ gp; omega) _, far_ex hc8 (by omega), far_ex hl8 (by omega)⟩, by simp [intOf]; omega⟩
end Go.Proofs.Ytnbabdeklceklaa
