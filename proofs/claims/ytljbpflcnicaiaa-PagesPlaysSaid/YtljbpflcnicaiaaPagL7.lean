/-
  PagesPlays, walked.
-/
import Derived.Test.YtljbpflcnicaiaaPagL2
namespace Go.Proofs.Ytljbpflcnicaiaa
open Go.RowKit
set_option linter.unusedVariables false
set_option linter.unusedSimpArgs false

/-- later, below block B nothing turned -/
def RbB (B : Nat) (w w' : World) : Prop := Below B w w'
theorem RbB_refl (B : Nat) (w : World) : RbB B w w := Below.refl _ _
theorem RbB_trans (B : Nat) (x y z : World) (h : RbB B x y) (k : RbB B y z) : RbB B x z := Below.trans h k
instance laterRbB (B : Nat) (w : World) : Nonempty (Later (RbB B) w) := nonemptyLater (RbB_refl B) w
theorem laterB_cell {B : Nat} {w : World} {b o : Nat} {v : Value} (h : w.cell? ⟨b, o, none⟩ = some v) (hb : b < B) : ∀ x : Later (RbB B) w.drew, x.w.cell? ⟨b, o, none⟩ = some v :=
  fun x => (Below.cell (p := ⟨b, o, none⟩) x.later hb).trans h
set_option maxRecDepth 100000 in
set_option maxHeartbeats 1600000 in
theorem meant_p (b : Nat) (S : List Nat) (K p q : Int) (av : Option Addr) (n cv : Nat) (l : List UInt8) (w : World) (h : RM w b S) (ho : OpIs w K p q av n cv l) (hne : 0 < n → ∀ g, (Value.slice av n cv).ownBlock = some g → ¬ g = b) (hsz : n ≤ 1024) (B : Bool) (hB : Hid (B = doIs S K p q l)) (T : List Nat) (hT : Hid (T = doS S K p q l)) :
    Calls Try.prog 25 #[.pointer (some ⟨b, 0, none⟩), .agg #[.int .i64 K, .int .i64 p, .int .i64 q, .slice av n cv]] w fun e w' => e = .returned (.bool B) ∧ RM w' b T ∧ Mods (fun g => g = b) w w' := by
  have hb1 := (Below.refl w.heap.size w).alloc (Nat.le_refl _) (.cells #[.int .i64 K, .int .i64 p, .int .i64 q, .slice av n cv] 30)
  have h1 := h.below hb1
  have hm1 := Mods.fresh hb1 (fun g => g = b)
  have hsl := ho.sl.below hb1
  by_cases hK0 : K = 0
  · subst hK0
    have HB : Hid (B = setIs p q) := hB.out
    have HT : Hid (T = setS S p q) := hT.out
    go_enter Try.func25, Try.ntmps25
    go_wp2_with fail
    refine (rset_p b S p q _ h1 B HB T HT).mono ?_
    rintro e w2 ⟨rfl, h2, hm2⟩
    go_wp2_with fail
    go_ret
    exact ⟨rfl, h2, hm1.trans hm2⟩
  have hK0' : (K == 0) = false := by rw [beq_eq_false_iff_ne]; exact hK0
  by_cases hK1 : K = 1
  · subst hK1
    have HB : Hid (B = hasS S p) := hB.out
    have HT : Hid (T = clearS S p) := hT.out
    go_enter Try.func25, Try.ntmps25
    go_wp2_with fail
    refine (rclear_p b S p _ h1 B HB T HT).mono ?_
    rintro e w2 ⟨rfl, h2, hm2⟩
    go_wp2_with fail
    go_ret
    exact ⟨rfl, h2, hm1.trans hm2⟩
  have hK1' : (K == 1) = false := by rw [beq_eq_false_iff_ne]; exact hK1
  by_cases hK2 : K = 2
  · subst hK2
    have HB : Hid (B = layIs p l) := hB.out
    have HT : Hid (T = layS S p l) := hT.out
    clear hB hT
    go_enter Try.func25, Try.ntmps25
    go_wp2_with fail
    refine (rlay_p b S p av n cv l _ h1 hsl hne (by omega) B HB T HT).mono ?_
    rintro e w2 ⟨rfl, h2, hm2⟩
    go_wp2_with fail
    go_ret
    exact ⟨rfl, h2, hm1.trans hm2⟩
  · have hK2' : (K == 2) = false := by rw [beq_eq_false_iff_ne]; exact hK2
    have HB : B = false := by rw [hB.out, doIs, if_neg hK0, if_neg hK1, if_neg hK2]
    have HT : T = S := by rw [hT.out, doS, if_neg hK0, if_neg hK1, if_neg hK2]
    clear hB hT
    subst HB HT
    clear hK0 hK1 hK2
    go_enter Try.func25, Try.ntmps25
    go_wp2_with fail
    go_ret
    exact ⟨rfl, h1, hm1⟩

/-- four maps: the two that are played with, and the two that were copied -/
structure Four (w0 w : World) (b d h g : Nat) (S S0 : List Nat) : Prop where
  m : PM w b S
  x : RM w d S
  half : PM w h S0
  was : RM w g S0
  below : Below w0.heap.size w0 w
  b0 : w0.heap.size ≤ b
  d0 : w0.heap.size ≤ d
  bd : b ≠ d
  bh : b ≠ h
  bg : b ≠ g
  dh : d ≠ h
  dg : d ≠ g
theorem Four.step {w0 w w' : World} {b d h g : Nat} {S S0 : List Nat} (f : Four w0 w b d h g S S0) (hb : Below w.heap.size w w') : Four w0 w' b d h g S S0 :=
  ⟨f.m.below hb, f.x.below hb, f.half.below hb, f.was.below hb, f.below.trans (hb.mono f.below.size), f.b0, f.d0, f.bd, f.bh, f.bg, f.dh, f.dg⟩
set_option maxRecDepth 100000 in
set_option maxHeartbeats 4000000 in
theorem pagesPlays_walk (a : Option Addr) (n c : Nat) (l : List (Int × Int × Int × List UInt8)) (z : Int) (w : World) (hl : SlOf VOp 4 w (.slice a n c) l) :
    Calls Try.prog 7 #[.slice a n c, .int .i64 z] w fun e w' => e = .returned (.bool true) ∧ Below w.heap.size w w' := by
  go_enter Try.func7, Try.ntmps7
  have hn := hl.len
  have hn2 := hn.2
  have HN := Lib.hid hn.1
  clear hn
  go_wp2_with fail
  refine (vast_any a n c l w hl).mono ?_
  rintro e w1 ⟨B, rfl, HV, hb1⟩
  cases B with
  | true =>
    go_wp2_with fail
    refine (works_any w1).mono ?_
    rintro e wq ⟨rfl, hbq⟩
    go_wp2_with fail
    go_ret
    exact ⟨rfl, (hb1).trans (hbq.mono (hb1).size)⟩
  | false =>
  have HF : Hid (Few l) := HV.out rfl
  have hn200 : n ≤ 200 := by rw [HN.out]; exact HF.out.1
  clear HV
  go_wp2_with fail
  refine (new_h w1).mono ?_
  rintro e w2 ⟨rfl, hm2, hb2⟩
  have hB2 := hb1.trans (hb2.mono hb1.size)
  obtain ⟨b, hb⟩ : ∃ b, b = w1.heap.size := ⟨_, rfl⟩
  rw [← hb] at hm2 ⊢
  have hbw : w.heap.size ≤ b := by rw [hb]; exact hb1.size
  have hbl := hm2.lt
  clear hb hb2
  go_wp2_with fail
  refine (rnew_h w2).mono ?_
  rintro e w3 ⟨rfl, hx3, hb3⟩
  have hB3 := hB2.trans (hb3.mono hB2.size)
  have hm3 := hm2.below hb3
  obtain ⟨d, hd⟩ : ∃ d, d = w2.heap.size := ⟨_, rfl⟩
  rw [← hd] at hx3 hbl ⊢
  have hdw : w.heap.size ≤ d := by rw [hd]; exact hB2.size
  have hdl := hx3.lt
  clear hd hb3 hm2 hB2
  go_wp2_with fail
  refine (copy_h b _ w3 hm3).mono ?_
  rintro e w4 ⟨rfl, hh4, hb4⟩
  have hB4 := hB3.trans (hb4.mono hB3.size)
  have hm4 := hm3.below hb4
  have hx4 := hx3.below hb4
  obtain ⟨h, hh⟩ : ∃ h, h = w3.heap.size := ⟨_, rfl⟩
  rw [← hh] at hh4 hdl ⊢
  have hhl := hh4.lt
  clear hh hb4 hm3 hx3 hB3
  go_wp2_with fail
  refine (rcopy_h d _ w4 hx4).mono ?_
  rintro e w5 ⟨rfl, hg5, hb5⟩
  have hB5 := hB4.trans (hb5.mono hB4.size)
  have hm5 := hm4.below hb5
  have hx5 := hx4.below hb5
  have hh5 := hh4.below hb5
  obtain ⟨g, hg⟩ : ∃ g, g = w4.heap.size := ⟨_, rfl⟩
  rw [← hg] at hg5 hhl ⊢
  clear hg hb5 hm4 hx4 hh4 hB4
  have f5 : Four w w5 b d h g (List.replicate 1024 0) (List.replicate 1024 0) := ⟨hm5, hx5, hh5, hg5, hB5, hbw, hdw, by omega, by omega, by omega, by omega, by omega⟩
  clear hm5 hx5 hh5 hg5 hB5 hbw hdw hbl hdl hhl
  go_wp2_with fail
  go_loopw [7, 8, 9] (fun v7 v8 v9 wr => ∃ (k h g : Nat) (S S0 : List Nat), k ≤ n ∧ v9 = .int .i64 k ∧ v7 = .pointer (some ⟨h, 0, none⟩) ∧ v8 = .pointer (some ⟨g, 0, none⟩) ∧ Four w wr b d h g S S0) (fun _ _ v9 _ => n - (intOf v9).toNat)
  case atStart => exact ⟨0, h, g, _, _, Nat.zero_le _, rfl, rfl, rfl, f5⟩
  case round =>
    clear f5
    obtain ⟨k, h, g, S, S0, hk, rfl, rfl, rfl, f⟩ := hrel
    by_cases hkn : k = n
    rotate_left
    · have hlt : k < n := by omega
      have hlt' : (k : Int) < n := by omega
      obtain ⟨b7, o7, av, cv, m, K, x, y, r, rfl, hri, hrm, hop, hc0, hc1, hc2, hc3⟩ := op_at hl k hlt
      have hm1024 : m ≤ 1024 := by have := HF.out.2 k K x y r hri; omega
      have hb7 : b7 < w.heap.size := lt_of_cell hc0
      have HOP := Lib.hid hop
      replace hc0 := (f.below.cell (p := ⟨b7, o7 + k * 4, none⟩) hb7).trans hc0
      replace hc1 := (f.below.cell (p := ⟨b7, o7 + k * 4 + 1, none⟩) hb7).trans hc1
      replace hc2 := (f.below.cell (p := ⟨b7, o7 + k * 4 + 2, none⟩) hb7).trans hc2
      replace hc3 := (f.below.cell (p := ⟨b7, o7 + k * 4 + 3, none⟩) hb7).trans hc3
      have HC := Lib.hid (And.intro hc0 (And.intro hc1 (And.intro hc2 hc3)))
      clear hri hrm hop hc0 hc1 hc2 hc3
      by_cases hq : k = n / 2
      · have hq' : ((k : Int) == (n : Int) / 2) = true := by simp; omega
        clear hq
        have hdl := f.x.lt
        have hbl := f.m.lt
        go_wp2_with fail
        refine (copy_h b S wr f.m).mono ?_
        rintro e w4 ⟨rfl, hh4, hb4⟩
        have hm4 := f.m.below hb4
        have hx4 := f.x.below hb4
        have hB4 := f.below.trans (hb4.mono f.below.size)
        have f0 : w.heap.size ≤ b ∧ w.heap.size ≤ d ∧ b ≠ d := ⟨f.b0, f.d0, f.bd⟩
        obtain ⟨h, hh⟩ : ∃ h, h = wr.heap.size := ⟨_, rfl⟩
        rw [← hh] at hh4 hdl hbl ⊢
        have hhl := hh4.lt
        replace HC : Hid (w4.cell? ⟨b7, o7 + k * 4, none⟩ = some (.int .i64 K) ∧ w4.cell? ⟨b7, o7 + k * 4 + 1, none⟩ = some (.int .i64 x) ∧ w4.cell? ⟨b7, o7 + k * 4 + 2, none⟩ = some (.int .i64 y) ∧ w4.cell? ⟨b7, o7 + k * 4 + 3, none⟩ = some (.slice av m cv)) := by
          obtain ⟨k0, k1, k2, k3⟩ := HC.out
          have hbb : b7 < wr.heap.size := Nat.lt_of_lt_of_le hb7 f.below.size
          exact ⟨(hb4.cell (p := ⟨b7, o7 + k * 4, none⟩) hbb).trans k0, (hb4.cell (p := ⟨b7, o7 + k * 4 + 1, none⟩) hbb).trans k1, (hb4.cell (p := ⟨b7, o7 + k * 4 + 2, none⟩) hbb).trans k2, (hb4.cell (p := ⟨b7, o7 + k * 4 + 3, none⟩) hbb).trans k3⟩
        clear hh hb4 f
        go_wp2_with fail
        refine (rcopy_h d S w4 hx4).mono ?_
        rintro e w5 ⟨rfl, hg5, hb5⟩
        have hB5 := hB4.trans (hb5.mono hB4.size)
        have hm5 := hm4.below hb5
        have hx5 := hx4.below hb5
        have hh5 := hh4.below hb5
        obtain ⟨g, hg⟩ : ∃ g, g = w4.heap.size := ⟨_, rfl⟩
        rw [← hg] at hg5 hhl ⊢
        replace HC : Hid (w5.cell? ⟨b7, o7 + k * 4, none⟩ = some (.int .i64 K) ∧ w5.cell? ⟨b7, o7 + k * 4 + 1, none⟩ = some (.int .i64 x) ∧ w5.cell? ⟨b7, o7 + k * 4 + 2, none⟩ = some (.int .i64 y) ∧ w5.cell? ⟨b7, o7 + k * 4 + 3, none⟩ = some (.slice av m cv)) := by
          obtain ⟨k0, k1, k2, k3⟩ := HC.out
          have hbb : b7 < w4.heap.size := Nat.lt_of_lt_of_le hb7 hB4.size
          exact ⟨(hb5.cell (p := ⟨b7, o7 + k * 4, none⟩) hbb).trans k0, (hb5.cell (p := ⟨b7, o7 + k * 4 + 1, none⟩) hbb).trans k1, (hb5.cell (p := ⟨b7, o7 + k * 4 + 2, none⟩) hbb).trans k2, (hb5.cell (p := ⟨b7, o7 + k * 4 + 3, none⟩) hbb).trans k3⟩
        clear hg hb5 hm4 hx4 hh4 hB4
        have f : Four w w5 b d h g S S := ⟨hm5, hx5, hh5, hg5, hB5, f0.1, f0.2.1, f0.2.2, by omega, by omega, by omega, by omega⟩
        clear hm5 hx5 hh5 hg5 hB5 hbl hdl hhl
        obtain ⟨wr, rfl⟩ : ∃ x, x = w5 := ⟨_, rfl⟩
        obtain ⟨S0, hS0⟩ : ∃ x, x = S := ⟨_, rfl⟩
        replace f : Four w wr b d h g S S0 := by rw [hS0]; exact f
        clear hS0
        go_wp2_with fail
        obtain ⟨hc0, hc1, hc2, hc3⟩ := HC.out
        have q0 := laterB_cell hc0 hb7
        have q1 := laterB_cell hc1 hb7
        have q2 := laterB_cell hc2 hb7
        have q3 := laterB_cell hc3 hb7
        clear hc0 hc1 hc2 hc3 HC
        refine wp_region_idx (RbB w.heap.size) (RbB_refl _) (RbB_trans _) [(0,0),(0,1),(0,2),(0,3),(0,4),(0,6),(0,7),(0,8),(0,9),(0,10),(1,5),(1,11),(0,12)] (by kernel_rfl) (by kernel_rfl) (by kernel_rfl) ?_
        simp only [pickO, List.getD_cons_succ, List.getD_cons_zero]
        refine wpCan_seg 10 (by kernel_rfl) ?_
        simp only [List.take_succ_cons, List.take_zero, List.drop_succ_cons, List.drop_zero, List.map_cons, List.map_nil]
        iterate 10 (go_big_quiet_step (fail))
        refine wpQuiet_nil ?_
        clear q0 q1 q2 q3
        have hfd := f.step (Below.refl wr.heap.size wr).drew
        obtain ⟨BB, hBB⟩ : ∃ BB, BB = doIs S K x y r := ⟨_, rfl⟩
        obtain ⟨T, hT⟩ : ∃ T, T = doS S K x y r := ⟨_, rfl⟩
        have HBB := Lib.hid hBB
        have HT := Lib.hid hT
        clear hBB hT
        refine wpCan_list (k := 0) (fun KK hK => ?_) (fun _ => RbB_refl _ _)
        go_wp2_with fail
        have hop1 : OpIs wr.drew K x y av m cv r := ⟨HOP.out.sl.below hfd.below, HOP.out.K1, HOP.out.p1, HOP.out.q1⟩
        refine (does_p b S K x y av m cv r _ hfd.m hop1 hm1024 BB HBB T HT).mono ?_
        rintro e w6 ⟨rfl, hm6, hg6⟩
        have hB6 := below_mods (P := fun g => g = b) (Below.refl w.heap.size wr.drew) hg6 (fun g e => by rw [e]; exact hfd.b0) hfd.below.size
        have hx6 := hfd.x.mods hg6 (fun e => hfd.bd e.symm)
        have hh6 := hfd.half.mods hg6 (fun e => hfd.bh e.symm)
        have hw6 := hfd.was.mods hg6 (fun e => hfd.bg e.symm)
        have hBB6 := hfd.below.trans hB6
        go_wp2_with fail
        refine hK _ _ (fun _ => hB6) ?_
        clear hK KK
        refine wpCan_list (k := 0) (fun KK hK => ?_) (fun _ => RbB_refl _ _)
        go_wp2_with fail
        have hop2 : OpIs w6 K x y av m cv r := ⟨HOP.out.sl.below hBB6, HOP.out.K1, HOP.out.p1, HOP.out.q1⟩
        refine (meant_p d S K x y av m cv r _ hx6 hop2 (fun h0 g hg e => by
          obtain ⟨b', o', e1, e2, e3⟩ := HOP.out.sl.addr (by omega)
          subst e1
          simp [Value.ownBlock] at hg
          have := hfd.d0
          omega) hm1024 BB HBB T HT).mono ?_
        rintro e w7 ⟨rfl, hx7, hg7⟩
        have hB7 := below_mods (P := fun g => g = d) (Below.refl w.heap.size w6) hg7 (fun g e => by rw [e]; exact hfd.d0) hBB6.size
        have hm7 := hm6.mods hg7 hfd.bd
        have hh7 := hh6.mods hg7 (fun e => hfd.dh e.symm)
        have hw7 := hw6.mods hg7 (fun e => hfd.dg e.symm)
        have f7 : Four w w7 b d h g T S0 := ⟨hm7, hx7, hh7, hw7, hBB6.trans hB7, hfd.b0, hfd.d0, hfd.bd, hfd.bh, hfd.bg, hfd.dh, hfd.dg⟩
        clear hm6 hg6 hB6 hx6 hh6 hw6 hBB6 hop1 hop2 hx7 hg7 hm7 hh7 hw7 hfd f
        go_wp2_with fail
        refine hK _ _ (fun _ => hB7) ?_
        clear hK KK hB7
        refine wpCan_seg 1 (by kernel_rfl) ?_
        simp only [List.take_succ_cons, List.take_zero, List.drop_succ_cons, List.drop_zero, List.map_cons, List.map_nil]
        iterate 1 (go_big_quiet_step (fail))
        refine wpQuiet_nil ?_
        unfold wpCan
        go_wp2_with fail
        exact ⟨⟨k + 1, h, g, T, S0, by omega, by go_num, rfl, rfl, f7⟩, by simp [intOf]; omega⟩
      · have hq' : ((k : Int) == (n : Int) / 2) = false := by rw [beq_eq_false_iff_ne]; omega
        clear hq
        go_wp2_with fail
        obtain ⟨hc0, hc1, hc2, hc3⟩ := HC.out
        have q0 := laterB_cell hc0 hb7
        have q1 := laterB_cell hc1 hb7
        have q2 := laterB_cell hc2 hb7
        have q3 := laterB_cell hc3 hb7
        clear hc0 hc1 hc2 hc3 HC
        refine wp_region_idx (RbB w.heap.size) (RbB_refl _) (RbB_trans _) [(0,0),(0,1),(0,2),(0,3),(0,4),(0,6),(0,7),(0,8),(0,9),(0,10),(1,5),(1,11),(0,12)] (by kernel_rfl) (by kernel_rfl) (by kernel_rfl) ?_
        simp only [pickO, List.getD_cons_succ, List.getD_cons_zero]
        refine wpCan_seg 10 (by kernel_rfl) ?_
        simp only [List.take_succ_cons, List.take_zero, List.drop_succ_cons, List.drop_zero, List.map_cons, List.map_nil]
        iterate 10 (go_big_quiet_step (fail))
        refine wpQuiet_nil ?_
        clear q0 q1 q2 q3
        have hfd := f.step (Below.refl wr.heap.size wr).drew
        obtain ⟨BB, hBB⟩ : ∃ BB, BB = doIs S K x y r := ⟨_, rfl⟩
        obtain ⟨T, hT⟩ : ∃ T, T = doS S K x y r := ⟨_, rfl⟩
        have HBB := Lib.hid hBB
        have HT := Lib.hid hT
        clear hBB hT
        refine wpCan_list (k := 0) (fun KK hK => ?_) (fun _ => RbB_refl _ _)
        go_wp2_with fail
        have hop1 : OpIs wr.drew K x y av m cv r := ⟨HOP.out.sl.below hfd.below, HOP.out.K1, HOP.out.p1, HOP.out.q1⟩
        refine (does_p b S K x y av m cv r _ hfd.m hop1 hm1024 BB HBB T HT).mono ?_
        rintro e w6 ⟨rfl, hm6, hg6⟩
        have hB6 := below_mods (P := fun g => g = b) (Below.refl w.heap.size wr.drew) hg6 (fun g e => by rw [e]; exact hfd.b0) hfd.below.size
        have hx6 := hfd.x.mods hg6 (fun e => hfd.bd e.symm)
        have hh6 := hfd.half.mods hg6 (fun e => hfd.bh e.symm)
        have hw6 := hfd.was.mods hg6 (fun e => hfd.bg e.symm)
        have hBB6 := hfd.below.trans hB6
        go_wp2_with fail
        refine hK _ _ (fun _ => hB6) ?_
        clear hK KK
        refine wpCan_list (k := 0) (fun KK hK => ?_) (fun _ => RbB_refl _ _)
        go_wp2_with fail
        have hop2 : OpIs w6 K x y av m cv r := ⟨HOP.out.sl.below hBB6, HOP.out.K1, HOP.out.p1, HOP.out.q1⟩
        refine (meant_p d S K x y av m cv r _ hx6 hop2 (fun h0 g hg e => by
          obtain ⟨b', o', e1, e2, e3⟩ := HOP.out.sl.addr (by omega)
          subst e1
          simp [Value.ownBlock] at hg
          have := hfd.d0
          omega) hm1024 BB HBB T HT).mono ?_
        rintro e w7 ⟨rfl, hx7, hg7⟩
        have hB7 := below_mods (P := fun g => g = d) (Below.refl w.heap.size w6) hg7 (fun g e => by rw [e]; exact hfd.d0) hBB6.size
        have hm7 := hm6.mods hg7 hfd.bd
        have hh7 := hh6.mods hg7 (fun e => hfd.dh e.symm)
        have hw7 := hw6.mods hg7 (fun e => hfd.dg e.symm)
        have f7 : Four w w7 b d h g T S0 := ⟨hm7, hx7, hh7, hw7, hBB6.trans hB7, hfd.b0, hfd.d0, hfd.bd, hfd.bh, hfd.bg, hfd.dh, hfd.dg⟩
        clear hm6 hg6 hB6 hx6 hh6 hw6 hBB6 hop1 hop2 hx7 hg7 hm7 hh7 hw7 hfd f
        go_wp2_with fail
        refine hK _ _ (fun _ => hB7) ?_
        clear hK KK hB7
        refine wpCan_seg 1 (by kernel_rfl) ?_
        simp only [List.take_succ_cons, List.take_zero, List.drop_succ_cons, List.drop_zero, List.map_cons, List.map_nil]
        iterate 1 (go_big_quiet_step (fail))
        refine wpQuiet_nil ?_
        unfold wpCan
        go_wp2_with fail
        exact ⟨⟨k + 1, h, g, T, S0, by omega, by go_num, rfl, rfl, f7⟩, by simp [intOf]; omega⟩
    subst hkn
    clear HF HN hn200 hn2 hl
    have HS : Hid (Good S) := f.m.2
    have HS0 : Hid (Good S0) := f.half.2
    obtain ⟨V, hV⟩ : ∃ V, V = getS S z := ⟨_, rfl⟩
    obtain ⟨B0, hB0⟩ : ∃ B0, B0 = hasS S z := ⟨_, rfl⟩
    obtain ⟨L1, hL1⟩ : ∃ L, L = selG S Int.ofNat 1024 := ⟨_, rfl⟩
    obtain ⟨L2, hL2⟩ : ∃ L, L = selG S (fun i => ((S.getD i 0 : Nat) : Int)) 1024 := ⟨_, rfl⟩
    obtain ⟨L3, hL3⟩ : ∃ L, L = turnedL S S0 := ⟨_, rfl⟩
    obtain ⟨Z, hZ⟩ : ∃ Z : List Nat, Z = List.replicate 1024 0 := ⟨_, rfl⟩
    obtain ⟨L4, hL4⟩ : ∃ L, L = turnedL S0 Z := ⟨_, rfl⟩
    have HV := Lib.hid hV
    have HB0 := Lib.hid hB0
    have HL1 := Lib.hid hL1
    have HL2 := Lib.hid hL2
    have HL3 := Lib.hid hL3
    have HL4 := Lib.hid hL4
    have HZ := Lib.hid hZ
    have hVV : (V != V) = false := by simp
    have hB00 : (B0 != B0) = false := by simp
    clear hV hB0 hL1 hL2 hL3 hL4 hZ
    go_wp2_with fail
    refine (get_p b S z wr f.m B0 HB0 V HV).mono ?_
    rintro e wx ⟨rfl, rfl⟩
    go_wp2_with fail
    refine (rget_p d S z wr f.x B0 HB0 V HV).mono ?_
    rintro e wx ⟨rfl, rfl⟩
    go_wp2_with fail
    refine (pages_p b S wr (f).m L1 HL1 _ (Lib.hid rfl)).mono ?_
    rintro e wa ⟨va, rfl, hoa, hba⟩
    obtain ⟨aa, ca, rfl⟩ := hoa.form
    have fa := (f).step hba
    go_wp2_with fail
    refine (rpages_p d S wa fa.x L1 HL1 _ (Lib.hid rfl)).mono ?_
    rintro e wb ⟨vb, rfl, hob, hbb⟩
    obtain ⟨ab, cb, rfl⟩ := hob.form
    have fb := fa.step hbb
    go_wp2_with fail
    refine (same_h aa _ ca ab _ cb L1 L1 wb (hoa.below hbb).sl hob.sl).mono ?_
    rintro e w2 ⟨R, rfl, HR, hbc⟩
    obtain rfl : R = true := by rw [HR.out]; simp
    have f2 := fb.step hbc
    clear HR hoa hob hba hbb hbc fa fb
    go_wp2_with fail
    refine (sectors_p b S w2 (f2).m L2 HL2 _ (Lib.hid rfl)).mono ?_
    rintro e wa ⟨va, rfl, hoa, hba⟩
    obtain ⟨aa, ca, rfl⟩ := hoa.form
    have fa := (f2).step hba
    go_wp2_with fail
    refine (rsectors_p d S wa fa.x L2 HL2 _ (Lib.hid rfl)).mono ?_
    rintro e wb ⟨vb, rfl, hob, hbb⟩
    obtain ⟨ab, cb, rfl⟩ := hob.form
    have fb := fa.step hbb
    go_wp2_with fail
    refine (same_h aa _ ca ab _ cb L2 L2 wb (hoa.below hbb).sl hob.sl).mono ?_
    rintro e w3 ⟨R, rfl, HR, hbc⟩
    obtain rfl : R = true := by rw [HR.out]; simp
    have f3 := fb.step hbc
    clear HR hoa hob hba hbb hbc fa fb
    go_wp2_with fail
    refine (turned_p b h S S0 w3 f3.m f3.half L3 HL3 _ (Lib.hid rfl)).mono ?_
    rintro e wa ⟨va, rfl, hoa, hba⟩
    obtain ⟨aa, ca, rfl⟩ := hoa.form
    have fa := f3.step hba
    go_wp2_with fail
    refine (rturned_p d g S S0 wa fa.x fa.was L3 HL3 _ (Lib.hid rfl)).mono ?_
    rintro e wb ⟨vb, rfl, hob, hbb⟩
    obtain ⟨ab, cb, rfl⟩ := hob.form
    have fb := fa.step hbb
    go_wp2_with fail
    refine (same_h aa _ ca ab _ cb L3 L3 wb (hoa.below hbb).sl hob.sl).mono ?_
    rintro e w4 ⟨R, rfl, HR, hbc⟩
    obtain rfl : R = true := by rw [HR.out]; simp
    have f4 := fb.step hbc
    clear HR hoa hob hba hbb hbc fa fb
    go_wp2_with fail
    refine (turned_n h S0 Z w4 f4.half HZ.out L4 HL4 _ (Lib.hid rfl)).mono ?_
    rintro e wa ⟨va, rfl, hoa, hba⟩
    obtain ⟨aa, ca, rfl⟩ := hoa.form
    have fa := f4.step hba
    go_wp2_with fail
    refine (rturned_n g S0 Z wa fa.was HZ.out L4 HL4 _ (Lib.hid rfl)).mono ?_
    rintro e wb ⟨vb, rfl, hob, hbb⟩
    obtain ⟨ab, cb, rfl⟩ := hob.form
    have fb := fa.step hbb
    go_wp2_with fail
    refine (same_h aa _ ca ab _ cb L4 L4 wb (hoa.below hbb).sl hob.sl).mono ?_
    rintro e w5 ⟨R, rfl, HR, hbc⟩
    obtain rfl : R = true := by rw [HR.out]; simp
    have f5 := fb.step hbc
    clear HR hoa hob hba hbb hbc fa fb f f2 f3 f4
    go_wp2_with fail
    go_loopw [14] (fun v14 wr => ∃ i : Nat, i ≤ 11 ∧ v14 = .int .i64 ((i : Int) - 1) ∧ Four w wr b d h g S S0) (fun v14 _ => 11 - (intOf v14 + 1).toNat)
    case atStart => exact ⟨0, by omega, rfl, f5⟩
    case round =>
      clear f5
      obtain ⟨i, hi, rfl, f⟩ := hrel
      by_cases hi11 : i = 11
      · subst hi11
        have hB := f.below
        go_wp2_with fail
        refine (works_any wr).mono ?_
        rintro e wq ⟨rfl, hbq⟩
        go_wp2_with fail
        go_ret
        exact ⟨rfl, (hB).trans (hbq.mono (hB).size)⟩
      · obtain ⟨y, hy⟩ : ∃ y : Int, y = (i : Int) - 1 := ⟨_, rfl⟩
        rw [← hy]
        have hy1 : y ≤ 9 := by omega
        have hy2 : -1 ≤ y := by omega
        have HY := Lib.hid hy
        obtain ⟨P1, hP1⟩ : ∃ P1, P1 = partB S y := ⟨_, rfl⟩
        obtain ⟨P2, hP2⟩ : ∃ P2, P2 = partB S0 y := ⟨_, rfl⟩
        have HP1 := Lib.hid hP1
        have HP2 := Lib.hid hP2
        clear hy hP1 hP2
        go_wp2_with fail
        refine wp_region_idx Rb Rb_refl Rb_trans [(0,0),(0,1),(0,4),(0,5),(1,2),(0,3),(1,6),(0,7),(0,8),(0,9),(0,10),(0,11),(0,14),(0,15),(1,12),(0,13),(1,16),(0,17),(0,18),(0,19)] (by kernel_rfl) (by kernel_rfl) (by kernel_rfl) ?_
        simp only [pickO, List.getD_cons_succ, List.getD_cons_zero]
        refine wpCan_seg 4 (by kernel_rfl) ?_
        simp only [List.take_succ_cons, List.take_zero, List.drop_succ_cons, List.drop_zero, List.map_cons, List.map_nil]
        iterate 4 (go_big_quiet_step (fail))
        refine wpQuiet_nil ?_
        have fd := f.step (Below.refl wr.heap.size wr).drew
        refine wpCan_list (k := 0) (fun KK hK => ?_) (fun _ => Rb_refl _)
        go_wp2_with fail
        refine (part_p b S y _ fd.m P1 HP1).mono ?_
        rintro e w1 ⟨vp, rfl, o1, hbp⟩
        obtain ⟨ap, cp, rfl⟩ := (o1).form
        have f1 := (fd).step hbp
        have k1 := conv_later (w := w1) (o1).sl
        go_wp2_with fail
        refine hK _ _ (fun _ => hbp) ?_
        clear hK KK hbp o1
        generalize (P1).length = NQ at k1 ⊢
        refine wpCan_seg 1 (by kernel_rfl) ?_
        simp only [List.take_succ_cons, List.take_zero, List.drop_succ_cons, List.drop_zero, List.map_cons, List.map_nil]
        iterate 1 (go_big_quiet_step (fail))
        refine wpQuiet_nil ?_
        clear k1
        refine wpCan_list (k := 0) (fun KK hK => ?_) (fun _ => Rb_refl _)
        go_wp2_with fail
        refine (rpart_p d S y _ f1.x P1 HP1).mono ?_
        rintro e w2 ⟨vp, rfl, o2, hbp⟩
        obtain ⟨ap, cp, rfl⟩ := (o2).form
        have f2 := (f1).step hbp
        have k2 := conv_later (w := w2) (o2).sl
        go_wp2_with fail
        refine hK _ _ (fun _ => hbp) ?_
        clear hK KK hbp o2
        generalize (P1).length = NQ at k2 ⊢
        refine wpCan_seg 7 (by kernel_rfl) ?_
        simp only [List.take_succ_cons, List.take_zero, List.drop_succ_cons, List.drop_zero, List.map_cons, List.map_nil]
        iterate 7 (go_big_quiet_step (fail))
        refine wpQuiet_nil ?_
        clear k2
        refine wpCan_list (k := 0) (fun KK hK => ?_) (fun _ => Rb_refl _)
        go_wp2_with fail
        refine (part_p h S0 y _ f2.half P2 HP2).mono ?_
        rintro e w3 ⟨vp, rfl, o3, hbp⟩
        obtain ⟨ap, cp, rfl⟩ := (o3).form
        have f3 := (f2).step hbp
        have k3 := conv_later (w := w3) (o3).sl
        go_wp2_with fail
        refine hK _ _ (fun _ => hbp) ?_
        clear hK KK hbp o3
        generalize (P2).length = NQ at k3 ⊢
        refine wpCan_seg 1 (by kernel_rfl) ?_
        simp only [List.take_succ_cons, List.take_zero, List.drop_succ_cons, List.drop_zero, List.map_cons, List.map_nil]
        iterate 1 (go_big_quiet_step (fail))
        refine wpQuiet_nil ?_
        clear k3
        refine wpCan_list (k := 0) (fun KK hK => ?_) (fun _ => Rb_refl _)
        go_wp2_with fail
        refine (rpart_p g S0 y _ f3.was P2 HP2).mono ?_
        rintro e w4 ⟨vp, rfl, o4, hbp⟩
        obtain ⟨ap, cp, rfl⟩ := (o4).form
        have f4 := (f3).step hbp
        have k4 := conv_later (w := w4) (o4).sl
        go_wp2_with fail
        refine hK _ _ (fun _ => hbp) ?_
        clear hK KK hbp o4
        generalize (P2).length = NQ at k4 ⊢
        refine wpCan_seg 3 (by kernel_rfl) ?_
        simp only [List.take_succ_cons, List.take_zero, List.drop_succ_cons, List.drop_zero, List.map_cons, List.map_nil]
        iterate 3 (go_big_quiet_step (fail))
        refine wpQuiet_nil ?_
        unfold wpCan
        go_wp2_with fail
        exact ⟨⟨i + 1, by omega, by rw [HY.out]; go_num, f4⟩, by have := HY.out; simp [intOf]; omega⟩
end Go.Proofs.Ytljbpflcnicaiaa
