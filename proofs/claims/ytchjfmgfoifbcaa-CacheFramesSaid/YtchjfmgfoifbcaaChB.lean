/-
  A cache's room. Conditions: the cache reads as one, its disk's power stays.
-/
import Derived.Test.YtchjfmgfoifbcaaChA
namespace Go.Proofs.Ytchjfmgfoifbcaa
open Go.RowKit
set_option linter.unusedVariables false
set_option linter.unusedSimpArgs false
set_option maxRecDepth 100000

theorem later_len {w : World} {c : Nat} {col : Nat → Nat} {b bd bm : Nat} {C : Ch} {at_ : Int → Option Nat} (h : CkIn c col w b C bd bm at_) (ty : TypeId) :
    ∀ x : Later Rb w.drew, (Builtin.len_ #[64] ty #[.map (some bm)]).run Try.prog x.w = .ok (.int .i64 C.ks.length) x.w := fun x =>
  ((h.mp.below (Below.refl _ _).drew).below x.later).len mapT ty
/-- which frame is the oldest so far -/
def OldR (C : Ch) (l : List Int) (z : Int) : Prop := (z = -1 ∧ ∀ k ∈ C.ks, k ∉ l → (C.F k).pins ≠ 0) ∨ (0 ≤ z ∧ z ∈ C.ks ∧ (C.F z).pins = 0)
theorem OldR.skip {C : Ch} {l : List Int} {z x : Int} (h : OldR C l z) (hx : (C.F x).pins ≠ 0) (hl : l.Nodup) : OldR C (l.erase x) z := by
  rcases h with ⟨h1, h2⟩ | h
  · refine .inl ⟨h1, fun k hk hkl => ?_⟩
    by_cases hkx : k = x
    · rw [hkx]; exact hx
    · exact h2 k hk (fun e => hkl ((List.Nodup.mem_erase_iff hl).2 ⟨hkx, e⟩))
  · exact .inr h
theorem rangeNodup {w : World} {bm r : Nat} {ks l : List Int} {f : Int → Option Nat} (h : RangeIs ptrE Try.prog 3 w bm r ks f l) : l.Nodup := by
  obtain ⟨D, left, cnt, _, _, _, _, _, h, _⟩ := h
  exact h
set_option maxHeartbeats 4000000 in
theorem room_p (c cd : Nat) (col : Nat → Nat) (b bd bm : Nat) (C : Ch) (at_ : Int → Option Nat) (n N : Nat) (w : World) (h : CkIn c col w b C bd bm at_) (hd : DkAt 62 cd col w bd C.D) (HL : LiveC C n N) (hN : N < 1000000000) (hcc : ¬ c = cd) :
    Calls Try.prog 38 #[.pointer (some ⟨b, 0, none⟩)] w fun e w' => ∃ E C', e = .returned (.int .i64 E) ∧ Hid (RoomR C E C') ∧ Left c cd col w b bd C' w' := by
  have H := Lib.hid h
  have HD := Lib.hid hd
  have HLL := Lib.hid HL
  have hC1 := HL.mst.1
  clear h hd HL
  have q0 := later_cell H.out.c3
  have q1 := later_cell H.out.c1
  have q2 := later_len H.out 3
  have HAL := Lib.hid (And.intro q0 (And.intro q1 q2))
  by_cases hlt : (C.ks.length : Int) < C.most
  · go_enter Try.func38, Try.ntmps38
    go_wp2_with fail
    refine wp_region_idx Rb Rb_refl Rb_trans [(0,0),(0,1),(0,2),(0,3),(0,4),(0,5),(0,6),(0,7),(0,8),(0,9)] (by kernel_rfl) (by kernel_rfl) (by kernel_rfl) ?_
    simp only [pickO, List.getD_cons_succ, List.getD_cons_zero]
    refine wpCan_seg 10 (by kernel_rfl) ?_
    simp only [List.take_succ_cons, List.take_zero, List.drop_succ_cons, List.drop_zero, List.map_cons, List.map_nil]
    iterate 10 (go_big_quiet_step (fail))
    refine wpQuiet_nil ?_
    clear q0 q1 q2
    unfold wpCan
    go_wp2_with fail
    go_ret
    have k1 : St (fun _ => False) col w col w.drew := St.fresh (Below.refl _ _).drew _ _
    exact ⟨0, C, rfl, Lib.hid (.inl ⟨hlt, rfl, rfl⟩), col, k1.mono (fun _ h => h.elim), bm, at_, H.out.st k1 (fun h => h) (fun h => h), HD.out.st k1 (fun h => h) (fun h => h)⟩
  · go_enter Try.func38, Try.ntmps38
    go_wp2_with fail
    refine wp_region_idx Rb Rb_refl Rb_trans [(0,0),(0,1),(0,2),(0,3),(0,4),(0,5),(0,6),(0,7),(0,8),(0,9)] (by kernel_rfl) (by kernel_rfl) (by kernel_rfl) ?_
    simp only [pickO, List.getD_cons_succ, List.getD_cons_zero]
    refine wpCan_seg 10 (by kernel_rfl) ?_
    simp only [List.take_succ_cons, List.take_zero, List.drop_succ_cons, List.drop_zero, List.map_cons, List.map_nil]
    iterate 10 (go_big_quiet_step (fail))
    refine wpQuiet_nil ?_
    clear q0 q1 q2
    unfold wpCan
    have c3 : w.drew.cell? ⟨b, 3, none⟩ = some (.map (some bm)) := H.out.c3
    have hmp : MapIs ptrE Try.prog 3 w.drew bm C.ks at_ := H.out.mp.below (Below.refl _ _).drew
    obtain ⟨r, hr⟩ : ∃ r, r = w.drew.heap.size := ⟨_, rfl⟩
    go_wp2_with (at_range; refine wpL_range hmp keyInt mapT rfl _ rfl rfl ?_; intro w0 hrg0 hg0 hs0; rw [← hr] at hrg0 ⊢; have HRG := Lib.hid hrg0; have HG0 := Lib.hid hg0; clear hrg0 hg0 hs0 hmp c3)
    go_frame
    have hB0 : Below w.heap.size w w0 := (Below.refl w.heap.size w).drew.trans ⟨HG0.out.os, HG0.out.tape, HG0.out.output, HG0.out.size, fun j hj => HG0.out.block j hj (by simp)⟩
    have hrw : w.heap.size ≤ r := by rw [hr]; exact Nat.le_refl _
    have HLT := Lib.hid (show ¬ (C.ks.length : Int) < C.most by omega)
    clear hr
    go_loopw [3] (fun v3 wr => ∃ l z, v3 = .int .i64 z ∧ Hid (RangeIs ptrE Try.prog 3 wr bm r C.ks at_ l) ∧ Hid (OldR C l z) ∧ Below w.heap.size w wr) (fun _ wr => wr.rangeLeft bm r)
    case atStart => exact ⟨C.ks, -1, rfl, HRG, Lib.hid (.inl ⟨rfl, fun k hk hkl => absurd hk hkl⟩), hB0⟩
    case round =>
      obtain ⟨l, z, rfl, HRG, HOLD, hb⟩ := hrel
      have hrg := HRG.out
      have k1 : St (fun _ => False) col w col wr := St.fresh hb _ _
      have HC := Lib.hid (H.out.st k1 (fun h => h) (fun h => h))
      clear k1
      go_wp2_with (at_next; refine wpL_next hrg keyInt rfl _ rfl rfl ?_ ?_)
      · intro hl
        subst hl
        clear hrg
        rcases HOLD.out with ⟨rfl, hall⟩ | ⟨hz0, hzk, hzp⟩
        · go_wp2_with fail
          go_ret
          have k1 : St (fun _ => False) col w col wr := St.fresh hb _ _
          exact ⟨3, C, rfl, Lib.hid (.inr (.inl ⟨by have := HLT.out; omega, fun k hk => hall k hk (by simp), rfl, rfl⟩)), col, k1.mono (fun _ h => h.elim), bm, at_, HC.out, HD.out.st k1 (fun h => h) (fun h => h)⟩
        · have hz1 : ¬ z < 0 := by omega
          go_wp2_with fail
          have k1 : St (fun _ => False) col w col wr := St.fresh hb _ _
          refine (out_p c cd col b bd bm C at_ n N z wr HC.out (HD.out.st k1 (fun h => h) (fun h => h)) HLL.out hN hcc hzk).mono ?_
          rintro e w5 ⟨rfl, col5, k5, h5⟩
          go_wp2_with fail
          go_ret
          exact ⟨0, outC C z, rfl, Lib.hid (.inr (.inr ⟨by have := HLT.out; omega, z, hzk, hzp, rfl, rfl⟩)), col5, (k1.mono (fun _ h => h.elim)).trans k5, h5⟩
      · intro x w2 hxl hxk hwx hrg2 hlt2 hg2 hs2 hen
        have hrlt : r < wr.heap.size := by
          obtain ⟨D, left, cnt, h1, _⟩ := hrg
          exact h1.lt
        have hb2 : Below w.heap.size w w2 := ⟨hg2.os.trans hb.os, hg2.tape.trans hb.tape, hg2.output.trans hb.output, Nat.le_trans hb.size hg2.size, fun j hj => (hg2.block j (Nat.lt_of_lt_of_le hj hb.size) (by simp; omega)).trans (hb.block j hj)⟩
        have hnd := rangeNodup hrg
        clear hs2 hg2 hrg hrlt HC
        have k2 : St (fun _ => False) col w col w2 := St.fresh hb2 _ _
        have HC := Lib.hid (H.out.st k2 (fun h => h) (fun h => h))
        obtain ⟨g, hg, hgb, hgm, a, cc, hr, _, _⟩ := HC.out.fr x hxk
        rw [show ptrE.val (at_ x) = .pointer (some ⟨g, 0, none⟩) from ptrV_some hg] at hen ⊢
        have q0 := later_cell HC.out.c3
        have q1 := later_cell (fr1 hr)
        have q3 := later_cell (fr3 hr)
        have hB2 : Below w.heap.size w w2.drew := hb2.trans ((Below.refl _ _).drew.mono hb2.size)
        have HRG2 : Hid (RangeIs ptrE Try.prog 3 w2.drew bm r C.ks at_ (l.erase x)) := Lib.hid (hrg2.mods (Mods.fresh (Below.refl _ _).drew (fun _ => False)) (fun h => h) (fun h => h))
        have hmsr : w2.drew.rangeLeft bm r < wr.rangeLeft bm r := hlt2
        have HND := Lib.hid hnd
        clear k2 hrg2 hlt2 hnd
        by_cases hp : (C.F x).pins = 0
        rotate_left
        · have e1 : ((C.F x).pins == 0) = false := by simp [hp]
          have HO2 := Lib.hid (HOLD.out.skip hp HND.out)
          clear hp
          go_wp2_with fail
          refine wp_region_idx Rb Rb_refl Rb_trans [(0,0),(0,1),(0,2),(0,3),(0,4),(0,5),(0,6),(0,7),(0,8),(0,9),(0,10),(0,11),(0,12),(0,13),(0,14),(0,15),(0,16),(0,17),(0,18),(0,19),(0,20),(0,21),(0,22),(0,23),(0,24)] (by kernel_rfl) (by kernel_rfl) (by kernel_rfl) ?_
          simp only [pickO, List.getD_cons_succ, List.getD_cons_zero]
          refine wpCan_seg 25 (by kernel_rfl) ?_
          simp only [List.take_succ_cons, List.take_zero, List.drop_succ_cons, List.drop_zero, List.map_cons, List.map_nil]
          iterate 25 (go_big_quiet_step (fail))
          refine wpQuiet_nil ?_
          clear q0 q1 q3
          unfold wpCan
          go_wp2_with fail
          exact ⟨⟨l.erase x, z, rfl, HRG2, HO2, hB2⟩, hmsr⟩
        have e1 : ((C.F x).pins == 0) = true := by simp [hp]
        have hx0 : 0 ≤ x := (HLL.out.keys x hxk).1
        have HX : Hid (OldR C (l.erase x) x) := Lib.hid (.inr ⟨hx0, hxk, hp⟩)
        rcases HOLD.out with ⟨rfl, _⟩ | ⟨hz0, hzk, hzp⟩
        · clear hp
          go_wp2_with fail
          refine wp_region_idx Rb Rb_refl Rb_trans [(0,0),(0,1),(0,2),(0,3),(0,4),(0,5),(0,6),(0,7),(0,8),(0,9),(0,10),(0,11),(0,12),(0,13),(0,14),(0,15),(0,16),(0,17),(0,18),(0,19),(0,20),(0,21),(0,22),(0,23),(0,24)] (by kernel_rfl) (by kernel_rfl) (by kernel_rfl) ?_
          simp only [pickO, List.getD_cons_succ, List.getD_cons_zero]
          refine wpCan_seg 25 (by kernel_rfl) ?_
          simp only [List.take_succ_cons, List.take_zero, List.drop_succ_cons, List.drop_zero, List.map_cons, List.map_nil]
          iterate 25 (go_big_quiet_step (fail))
          refine wpQuiet_nil ?_
          clear q0 q1 q3
          unfold wpCan
          go_wp2_with fail
          exact ⟨⟨l.erase x, x, rfl, HRG2, HX, hB2⟩, hmsr⟩
        · have hz1 : (z < 0) = False := eq_false (by omega)
          have HZ : Hid (OldR C (l.erase x) z) := Lib.hid (.inr ⟨hz0, hzk, hzp⟩)
          obtain ⟨g2, hg2, _, _, a2, cc2, hr2, _, _⟩ := HC.out.fr z hzk
          have q4 := later_look HC.out (HC.out.mp.wf keyInt z hzk) (ptrV_some hg2)
          have q5 := later_cell (fr1 hr2)
          clear hp hr hr2 hzp
          by_cases hu : (C.F x).used < (C.F z).used
          · go_wp2_with fail
            refine wp_region_idx Rb Rb_refl Rb_trans [(0,0),(0,1),(0,2),(0,3),(0,4),(0,5),(0,6),(0,7),(0,8),(0,9),(0,10),(0,11),(0,12),(0,13),(0,14),(0,15),(0,16),(0,17),(0,18),(0,19),(0,20),(0,21),(0,22),(0,23),(0,24)] (by kernel_rfl) (by kernel_rfl) (by kernel_rfl) ?_
            simp only [pickO, List.getD_cons_succ, List.getD_cons_zero]
            refine wpCan_seg 25 (by kernel_rfl) ?_
            simp only [List.take_succ_cons, List.take_zero, List.drop_succ_cons, List.drop_zero, List.map_cons, List.map_nil]
            iterate 25 (go_big_quiet_step (fail))
            refine wpQuiet_nil ?_
            clear q0 q1 q3 q4 q5
            unfold wpCan
            go_wp2_with fail
            exact ⟨⟨l.erase x, x, rfl, HRG2, HX, hB2⟩, hmsr⟩
          · go_wp2_with fail
            refine wp_region_idx Rb Rb_refl Rb_trans [(0,0),(0,1),(0,2),(0,3),(0,4),(0,5),(0,6),(0,7),(0,8),(0,9),(0,10),(0,11),(0,12),(0,13),(0,14),(0,15),(0,16),(0,17),(0,18),(0,19),(0,20),(0,21),(0,22),(0,23),(0,24)] (by kernel_rfl) (by kernel_rfl) (by kernel_rfl) ?_
            simp only [pickO, List.getD_cons_succ, List.getD_cons_zero]
            refine wpCan_seg 25 (by kernel_rfl) ?_
            simp only [List.take_succ_cons, List.take_zero, List.drop_succ_cons, List.drop_zero, List.map_cons, List.map_nil]
            iterate 25 (go_big_quiet_step (fail))
            refine wpQuiet_nil ?_
            clear q0 q1 q3 q4 q5
            unfold wpCan
            go_wp2_with fail
            exact ⟨⟨l.erase x, z, rfl, HRG2, HZ, hB2⟩, hmsr⟩
end Go.Proofs.Ytchjfmgfoifbcaa
