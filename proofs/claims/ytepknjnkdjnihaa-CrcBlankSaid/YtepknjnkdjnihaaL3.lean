/-
  The walk of CrcBlank: it returns true, and writes nothing that was there. No condition.
-/
import Derived.Test.YtepknjnkdjnihaaW4
import Derived.Test.YtepknjnkdjnihaaP4
import Derived.Deep.DeepCutAuto
namespace Go.Proofs.Ytepknjnkdjnihaa
open Go.RowKit
set_option linter.unusedVariables false

def SumIs (x : Nat) (w : World) (v : Value) (w' : World) : Prop := v = .int .u32 x ∧ Below w.heap.size w w'

/-- a blank block, and the make of it -/
def Zs (n : Nat) : Obj := .cells (bvs (List.replicate n 0)).toArray 5
theorem run_zs (n : Nat) (h : n < 4096) (W : World) : (Instr.makeSlice 23 (.int .i64 (n : Int)) (.int .i64 (n : Int))).run Try.prog W = .ok (.slice (some ⟨W.heap.size, 0, none⟩) n n) (W.alloc (Zs n)) := by
  obtain ⟨i, hi, hz0, hz1, hz2⟩ := info_parts et23.info
  have := run_make (P := Try.prog) (w := W) 23 5 i _ Try.underlying23 hi hz0 .i64 .i64 n n (by omega) (Int.le_refl _) (by rw [hz2]; omega) (by omega)
  rw [this, hz1]
  have e : madeCells (Value.int IntKind.u8 0).cells ((n : Int).toNat * 1) = (bvs (List.replicate n 0)).toArray := by
    apply Array.ext'
    show (madeCells #[Value.int IntKind.u8 0] _).toList = _
    rw [toList_madeCells_one, ← bvs_replicate]; simp
  rw [e]; simp [Zs]
theorem sl_zs (n : Nat) (h : n < 4096) (W : World) : Sl (W.alloc (Zs n)) 1 (.slice (some ⟨W.heap.size, 0, none⟩) n n) n (bvs (List.replicate n 0)) :=
  Sl.lit W _ 5 n (by simp [bvs]) (by simp [maxLen]; omega)

set_option maxHeartbeats 400000 in
theorem blank_walk (i k : Nat) (hi : i < 65536) (hk : k < 65536) (a : Option Addr) (n c : Nat) (l : List UInt8) (w : World) (hl : Sl w 1 (.slice a n c) n (bvs l)) :
    Calls Try.prog 6 #[.slice a n c, .int .u16 i, .int .u16 k] w fun e w' => e = .returned (.bool true) ∧ Below w.heap.size w w' := by
  have HL := Lib.hid hl
  have hn := hl.len
  clear hl
  by_cases hbig : 4096 < n
  · go_enter Try.func6, Try.ntmps6
    go_wp2_with (go_at_call 9; refine (works_any _).mono ?_; rintro e w1 ⟨rfl, hb1⟩)
    go_ret
    exact ⟨rfl, hb1⟩
  · obtain ⟨x, hx⟩ : ∃ f : Nat, f = i % 4096 := ⟨_, rfl⟩
    have hx1 : x < 4096 := by omega
    have hxe : (i : Int) % 4096 = (x : Int) := by omega
    obtain ⟨y, hy⟩ : ∃ f : Nat, f = k % 4096 := ⟨_, rfl⟩
    have hy1 : y < 4096 := by omega
    have hye : (k : Int) % 4096 = (y : Int) := by omega
    clear hx hy
    have hs := extend_lt 0 l
    go_enter Try.func6, Try.ntmps6
    go_wp2_with fail
    refine (crcSum_any _ _ _ _ _ HL.out).mono ?_
    rintro e w1 ⟨rfl, hb1⟩
    have HB := Lib.hid hb1
    clear hb1
    go_wp2_with (at_make; refine wpL_make et23 rfl rfl _ _ rfl x w.heap.size rfl rfl hxe hxe (by omega) (by simp [maxLen]; omega) HB.out.size ?_; intro w2 hown hg)
    have hb2 : Below w.heap.size w w2 := HB.out.grown hg HB.out.size (fun k e => by cases e)
    have HB2 := Lib.hid hb2
    rw [bvs_replicate] at hown
    have HO2 := Lib.hid hown
    clear hb2 hown hg
    refine (crcExtend_any _ hs _ _ _ _ _ (Sl.ofOwn HO2.out)).mono ?_
    rintro e w3 ⟨rfl, hb3⟩
    have HB3 := Lib.hid (HB2.out.trans (hb3.mono HB2.out.size))
    clear hb3
    go_wp2_with (at_make; refine wpL_make et23 rfl rfl _ _ rfl y w.heap.size rfl rfl hye hye (by omega) (by simp [maxLen]; omega) HB3.out.size ?_; intro w4 hown hg)
    have hb4 : Below w.heap.size w w4 := HB3.out.grown hg HB3.out.size (fun k e => by cases e)
    have HB4 := Lib.hid hb4
    rw [bvs_replicate] at hown
    have HO4 := Lib.hid hown
    clear hb4 hown hg
    refine (crcExtend_any _ hs _ _ _ _ _ (Sl.ofOwn HO4.out)).mono ?_
    rintro e w5 ⟨rfl, hb5⟩
    have HB5 := Lib.hid (HB4.out.trans (hb5.mono HB4.out.size))
    clear hb5
    go_upto_region 6 with fail
    go_cut [10] (fun v wz => v = .bool ((extend 0 (List.replicate x 0) : Int) == (extend 0 (List.replicate y 0) : Int)) ∧ Below w.heap.size w wz)
    case first =>
      have hmx := run_zs x hx1
      have hmy := run_zs y hy1
      have e1 : IntKind.i64.wrap (i : Int) = i := IntWalk.i64_in _ (by omega)
      have e2 : (i : Int).tmod 4096 = x := by rw [Int.tmod_eq_emod_of_nonneg (by omega)]; exact hxe
      have e3 : IntKind.i64.wrap (k : Int) = k := IntWalk.i64_in _ (by omega)
      have e4 : (k : Int).tmod 4096 = y := by rw [Int.tmod_eq_emod_of_nonneg (by omega)]; exact hye
      have f1 : Sl (w5.alloc (Zs x)).drew 1 (.slice (some ⟨w5.heap.size, 0, none⟩) x x) x (bvs (List.replicate x 0)) := sl_zs x hx1 w5
      have f2 : Sl ((w5.alloc (Zs x)).alloc (Zs y)).drew 1 (.slice (some ⟨w5.heap.size, 0, none⟩) x x) x (bvs (List.replicate x 0)) := (sl_zs x hx1 w5).below (((Below.refl _ _).alloc (Nat.le_refl _) (Zs y)).drew)
      have f3 : Sl ((w5.alloc (Zs y)).alloc (Zs x)).drew 1 (.slice (some ⟨w5.heap.size + 1, 0, none⟩) x x) x (bvs (List.replicate x 0)) := by
        have := sl_zs x hx1 (w5.alloc (Zs y))
        rw [World.size_alloc] at this
        exact this
      have f5 : Sl ((w5.alloc (Zs y)).alloc (Zs x)).drew 1 (.slice (some ⟨w5.heap.size, 0, none⟩) y y) y (bvs (List.replicate y 0)) := (sl_zs y hy1 w5).below (((Below.refl _ _).alloc (Nat.le_refl _) (Zs x)).drew)
      have f6 : Sl ((w5.alloc (Zs x)).alloc (Zs y)).drew 1 (.slice (some ⟨w5.heap.size + 1, 0, none⟩) y y) y (bvs (List.replicate y 0)) := by
        have := sl_zs y hy1 (w5.alloc (Zs x))
        rw [World.size_alloc] at this
        exact this
      have f7 := sl_zs y hy1
      have b1 : Below w.heap.size w (w5.alloc (Zs x)).drew := (HB5.out.alloc HB5.out.size (Zs x)).drew
      have b2 : Below w.heap.size w ((w5.alloc (Zs x)).alloc (Zs y)).drew := ((HB5.out.alloc HB5.out.size (Zs x)).alloc (HB5.out.alloc HB5.out.size (Zs x)).size (Zs y)).drew
      have b3 : Below w.heap.size w ((w5.alloc (Zs y)).alloc (Zs x)).drew := ((HB5.out.alloc HB5.out.size (Zs y)).alloc (HB5.out.alloc HB5.out.size (Zs y)).size (Zs x)).drew
      have F1 := Lib.hid f1
      have F2 := Lib.hid f2
      have F3 := Lib.hid f3
      have F5 := Lib.hid f5
      have F6 := Lib.hid f6
      have F7 := Lib.hid f7
      have B1 := Lib.hid b1
      have B2 := Lib.hid b2
      have B3 := Lib.hid b3
      clear f1 f2 f3 f5 f6 f7 b1 b2 b3
      go_region_with (go_at_call 12; first | ((with_reducible refine (crcSum_any _ _ _ (List.replicate x 0) _ F1.out).mono ?_); rintro e w6 ⟨rfl, hb6⟩; have g6 : Below w.heap.size w w6 := B1.out.trans (hb6.mono B1.out.size); have G6 := Lib.hid g6; have G7 := Lib.hid (g6.alloc g6.size (Zs y)); clear g6 hb6) | ((with_reducible refine (crcSum_any _ _ _ (List.replicate x 0) _ F2.out).mono ?_); rintro e w6 ⟨rfl, hb6⟩; have G7 : Hid (Below w.heap.size w w6) := B2.out.trans (hb6.mono B2.out.size); have F8 := Lib.hid (F6.out.below hb6); clear hb6) | ((with_reducible refine (crcSum_any _ _ _ (List.replicate x 0) _ F3.out).mono ?_); rintro e w6 ⟨rfl, hb6⟩; have G7 : Hid (Below w.heap.size w w6) := B3.out.trans (hb6.mono B3.out.size); have F8 := Lib.hid (F5.out.below hb6); clear hb6) | ((with_reducible refine (crcSum_any _ _ _ (List.replicate y 0) _ (F7.out _)).mono ?_); rintro e w7 ⟨rfl, hb7⟩; have G8 : Hid (Below w.heap.size w w7) := G7.out.trans (hb7.mono G7.out.size); clear hb7) | ((with_reducible refine (crcSum_any _ _ _ (List.replicate y 0) _ F8.out).mono ?_); rintro e w7 ⟨rfl, hb7⟩; have G8 : Hid (Below w.heap.size w w7) := G7.out.trans (hb7.mono G7.out.size); clear hb7))
      all_goals (go_wp2_with fail; go_meet; exact ⟨rfl, G8.out⟩)
    case rest =>
      obtain ⟨rfl, hbc⟩ := hcut
      have HBC := Lib.hid hbc
      have t1 : ((extend 0 (List.replicate x 0) : Int) == (extend 0 (List.replicate y 0) : Int)) = ((x : Int) == (y : Int)) := by
        have h := blank0_iff x y hx1 hy1
        rw [Bool.eq_iff_iff, beq_iff_eq, beq_iff_eq]
        omega
      have t2 : ((extend (extend 0 l) (List.replicate x 0) : Int) == (extend (extend 0 l) (List.replicate y 0) : Int)) = ((x : Int) == (y : Int) || (extend 0 l : Int) == 4294967295) := by
        have h := blank_iff (extend 0 l) x y hs hx1 hy1
        rw [Bool.eq_iff_iff, Bool.or_eq_true, beq_iff_eq, beq_iff_eq, beq_iff_eq]
        omega
      rw [t1]
      generalize extend (extend 0 l) (List.replicate x 0) = X at *
      generalize extend (extend 0 l) (List.replicate y 0) = Y at *
      generalize extend 0 l = Z at *
      clear hbc t1
      by_cases hxy : x = y
      · have t3 : ((x : Int) == (y : Int)) = true := by rw [beq_iff_eq]; omega
        rw [t3, Bool.true_or] at t2
        rw [t3]
        go_wp2_with fail
        refine (works_any _).mono ?_
        rintro e w9 ⟨rfl, hb9⟩
        go_wp2_with fail
        go_ret
        exact ⟨rfl, HBC.out.trans (hb9.mono HBC.out.size)⟩
      · have t3 : ((x : Int) == (y : Int)) = false := by rw [beq_eq_false_iff_ne]; omega
        rw [t3, Bool.false_or] at t2
        rw [t3]
        go_wp2_with fail
        refine (works_any _).mono ?_
        rintro e w9 ⟨rfl, hb9⟩
        go_wp2_with fail
        go_ret
        exact ⟨rfl, HBC.out.trans (hb9.mono HBC.out.size)⟩
end Go.Proofs.Ytepknjnkdjnihaa
