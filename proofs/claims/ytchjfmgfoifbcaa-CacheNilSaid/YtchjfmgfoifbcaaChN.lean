/-
  Law 05's 'does' at no cache. Conditions: the disk reads as one.
-/
import Derived.Test.YtchjfmgfoifbcaaChX
namespace Go.Proofs.Ytchjfmgfoifbcaa
open Go.RowKit
set_option linter.unusedVariables false
set_option linter.unusedSimpArgs false
set_option maxRecDepth 100000

theorem etI : ET Try.prog 35 3 (.int .i64 0) 1 8 := ⟨Try.underlying35, by kernel_rfl, rfl, by decide⟩
theorem Dk.Fits.field {D : Dk} {k : Nat} (h : D.Fits k) (dead : Bool) {armed : Int} (ha : armed ≤ 9223372036854775807) : (⟨D.S, D.P, dead, armed, D.steps⟩ : Dk).Fits (k + 2) :=
  Dk.Fits.le (k := k) ⟨⟨h.fit.at_, h.fit.sl, h.fit.pl⟩, ha, h.pen, h.st0, h.st1, h.sec⟩ (by omega)
theorem offD_fits {D : Dk} {k : Nat} (h : D.Fits k) : (offD D).Fits (k + 2) := h.field _ h.arm
theorem on_nil (w : World) : Calls Try.prog 31 #[.pointer none] w fun e w' => e = .returned (.int .i64 2) ∧ w = w' := by
  go_enter Try.func31, Try.ntmps31
  go_wp2_with fail
  go_ret
  exact ⟨rfl, rfl⟩
theorem may_nil (s : Int) (w : World) : Calls Try.prog 37 #[.pointer none, .int .i64 s] w fun e w' => e = .returned (.int .i64 2) ∧ w = w' := by
  go_enter Try.func37, Try.ntmps37
  go_wp2_with fail
  refine (on_nil w).mono ?_
  rintro e w2 ⟨rfl, rfl⟩
  go_wp2_with fail
  go_ret
  exact ⟨rfl, rfl⟩
theorem bring_nil (s : Int) (w : World) : Calls Try.prog 41 #[.pointer none, .int .i64 s] w fun e w' => e = .returned (.tuple #[.pointer none, .int .i64 2]) ∧ w = w' := by
  go_enter Try.func41, Try.ntmps41
  go_wp2_with fail
  refine (may_nil s w).mono ?_
  rintro e w2 ⟨rfl, rfl⟩
  go_wp2_with fail
  go_ret2
  exact ⟨rfl, rfl⟩
theorem cread_nil (s : Int) (w : World) : Calls Try.prog 23 #[.pointer none, .int .i64 s] w fun e w' => e = .returned (.tuple #[.slice none 0 0, .int .i64 2]) ∧ w = w' := by
  go_enter Try.func23, Try.ntmps23
  go_wp2_with fail
  refine (bring_nil s w).mono ?_
  rintro e w2 ⟨rfl, rfl⟩
  go_wp2_with fail
  go_ret2
  exact ⟨rfl, rfl⟩
theorem cwrite_nil (s : Int) (v : Value) (w : World) : Calls Try.prog 18 #[.pointer none, .int .i64 s, v] w fun e w' => e = .returned (.int .i64 2) ∧ w = w' := by
  go_enter Try.func18, Try.ntmps18
  go_wp2_with fail
  refine (may_nil s w).mono ?_
  rintro e w2 ⟨rfl, rfl⟩
  go_wp2_with fail
  go_ret
  exact ⟨rfl, rfl⟩
theorem pin_nil (s : Int) (w : World) : Calls Try.prog 24 #[.pointer none, .int .i64 s] w fun e w' => e = .returned (.int .i64 2) ∧ w = w' := by
  go_enter Try.func24, Try.ntmps24
  go_wp2_with fail
  refine (bring_nil s w).mono ?_
  rintro e w2 ⟨rfl, rfl⟩
  go_wp2_with fail
  go_ret
  exact ⟨rfl, rfl⟩
theorem unpin_nil (s : Int) (w : World) : Calls Try.prog 25 #[.pointer none, .int .i64 s] w fun e w' => e = .returned (.int .i64 2) ∧ w = w' := by
  go_enter Try.func25, Try.ntmps25
  go_wp2_with fail
  refine (on_nil w).mono ?_
  rintro e w2 ⟨rfl, rfl⟩
  go_wp2_with fail
  go_ret
  exact ⟨rfl, rfl⟩
theorem drop_nil (s : Int) (w : World) : Calls Try.prog 22 #[.pointer none, .int .i64 s] w fun e w' => e = .returned (.int .i64 2) ∧ w = w' := by
  go_enter Try.func22, Try.ntmps22
  go_wp2_with fail
  refine (on_nil w).mono ?_
  rintro e w2 ⟨rfl, rfl⟩
  go_wp2_with fail
  go_ret
  exact ⟨rfl, rfl⟩
theorem evict_nil (s : Int) (w : World) : Calls Try.prog 21 #[.pointer none, .int .i64 s] w fun e w' => e = .returned (.tuple #[.bool false, .int .i64 2]) ∧ w = w' := by
  go_enter Try.func21, Try.ntmps21
  go_wp2_with fail
  refine (on_nil w).mono ?_
  rintro e w2 ⟨rfl, rfl⟩
  go_wp2_with fail
  go_ret2
  exact ⟨rfl, rfl⟩
theorem flush_nil (w : World) : Calls Try.prog 14 #[.pointer none] w fun e w' => e = .returned (.int .i64 2) ∧ w = w' := by
  go_enter Try.func14, Try.ntmps14
  go_wp2_with fail
  refine (on_nil w).mono ?_
  rintro e w2 ⟨rfl, rfl⟩
  go_wp2_with fail
  go_ret
  exact ⟨rfl, rfl⟩
theorem held_nil (w : World) : Calls Try.prog 17 #[.pointer none] w fun e w' => e = .returned (.tuple #[.int .i64 0, .int .i64 0, .int .i64 0]) ∧ w = w' := by
  go_enter Try.func17, Try.ntmps17
  go_wp2_with fail
  go_ret3
  exact ⟨rfl, rfl⟩
/-- in a region that draws: what was there stays -/
def RK (B : Nat) (w w' : World) : Prop := ∀ k, k < B → w'.heap[k]? = w.heap[k]?
theorem RK_refl (B : Nat) (w : World) : RK B w w := fun _ _ => rfl
theorem RK_trans (B : Nat) (x y z : World) (h : RK B x y) (k : RK B y z) : RK B x z := fun i hi => (k i hi).trans (h i hi)
theorem RK.of {B : Nat} {w w' : World} (h : Below B w w') : RK B w w' := fun k hk => h.block k hk
theorem RK.back {B : Nat} {x y z : World} (h : RK B x z) (k : RK B x y) : RK B y z := fun i hi => (h i hi).trans (k i hi).symm
theorem laterK_cell {B : Nat} {w : World} {b o : Nat} {v : Value} (h : w.cell? ⟨b, o, none⟩ = some v) (hb : b < B) : ∀ x : Later (RK B) w.drew, x.w.cell? ⟨b, o, none⟩ = some v := fun x => by
  have h1 : x.w.heap[b]? = w.heap[b]? := x.later b hb
  unfold World.cell? at h ⊢
  simp only at h ⊢
  rw [h1]
  exact h
instance laterRK (B : Nat) (w : World) : Nonempty (Later (RK B) w) := nonemptyLater (RK_refl B) w
/-! ### does -/
def D19 : Nat → Prop := fun x => x = 1 ∨ x = 9
def NilP (K : Int) (col : Nat → Nat) (w : World) (e : Ending) (w' : World) : Prop :=
  ∃ a cc E, e = .returned (.agg #[.slice a 0 cc, .bool false, .int .i64 E]) ∧ ∃ col', Hid ((0 ≤ K ∧ K ≤ 6 → E = 2) ∧ St D19 col w col' w')
set_option maxHeartbeats 8000000 in
theorem does_nil (col : Nat → Nat) (bd : Nat) (D : Dk) (k : Nat) (w : World) (K s : Int) (aB : Option Addr) (nB cB : Nat) (l : List UInt8) (aK : Option Addr) (nK cK : Nat) (keep : List Int) (t : Int) (h : DkAt 62 1 col w bd D) (hF : D.Fits k) (hkk : k < 1000000)
    (hl : Sl w 1 (.slice aB nB cB) nB (bvs l)) (hnB : nB ≤ 1024) (hk : Sl w 1 (.slice aK nK cK) nK (ints keep)) (hka : ∀ col' w', St (fun x => x = 1) col w col' w' → Sl w' 1 (.slice aK nK cK) nK (ints keep)) (hnK : nK ≤ 200) :
    Calls Try.prog 12 #[.pointer none, .pointer (some ⟨bd, 0, none⟩), .agg #[.int .i64 K, .int .i64 s, .slice aB nB cB, .slice aK nK cK, .int .i64 t]] w (NilP K col w) := by
  obtain ⟨w3, hw3⟩ : ∃ w3, w3 = ((w.alloc (.cells #[.int .i64 K, .int .i64 s, .slice aB nB cB, .slice aK nK cK, .int .i64 t] 37)).alloc (.cells #[.slice none 0 0, .bool false, .int .i64 0] 39)).alloc (.cells #[.slice none 0 0, .bool false, .int .i64 0] 39) := ⟨_, rfl⟩
  have hb3 : Below w.heap.size w w3 := by rw [hw3]; exact (((Below.refl _ _).alloc (Nat.le_refl _) _).alloc (by simp) _).alloc (by simp; omega) _
  have hr0 : Row w3 w.heap.size 37 [.int .i64 K, .int .i64 s, .slice aB nB cB, .slice aK nK cK, .int .i64 t] := by rw [hw3]; exact ((Row.new w [.int .i64 K, .int .i64 s, .slice aB nB cB, .slice aK nK cK, .int .i64 t] 37).alloc _).alloc _
  have hr1 : Row w3 (w.heap.size + 1) 39 [.slice none 0 0, .bool false, .int .i64 0] := by
    rw [hw3]
    have := Row.new (w.alloc (.cells #[.int .i64 K, .int .i64 s, .slice aB nB cB, .slice aK nK cK, .int .i64 t] 37)) [.slice none 0 0, .bool false, .int .i64 0] 39
    rw [World.size_alloc] at this
    exact this.alloc _
  have hr2 : Row w3 (w.heap.size + 1 + 1) 39 [.slice none 0 0, .bool false, .int .i64 0] := by
    rw [hw3]
    have := Row.new ((w.alloc (.cells #[.int .i64 K, .int .i64 s, .slice aB nB cB, .slice aK nK cK, .int .i64 t] 37)).alloc (.cells #[.slice none 0 0, .bool false, .int .i64 0] 39)) [.slice none 0 0, .bool false, .int .i64 0] 39
    rw [World.size_alloc, World.size_alloc] at this
    exact this
  obtain ⟨col3, hcol3⟩ : ∃ x, x = recol col w.heap.size 7 := ⟨_, rfl⟩
  have K3 : Hid (St (D19) col w col3 w3) := Lib.hid (by rw [hcol3]; exact St.new hb3 _ col 7)
  have H3 : Hid (DkAt 62 1 col3 w3 bd D) := Lib.hid (by rw [hcol3]; exact h.st (St.new hb3 (fun _ => False) col 7) (fun h => h) (fun h => h))
  have X3 : Hid (Bx col3 w3 w.heap.size (w.heap.size + 1) (w.heap.size + 1 + 1) [.int .i64 K, .int .i64 s, .slice aB nB cB, .slice aK nK cK, .int .i64 t] [.slice none 0 0, .bool false, .int .i64 0]) := Lib.hid (by
    rw [hcol3]
    exact ⟨hr0, hr1, hr2, recol_ge (Nat.le_refl _), recol_ge (Nat.le_succ _), recol_ge (by omega), by omega, by omega⟩)
  have SB := Lib.hid (hl.below hb3)
  have K3r : St (fun x => x = 1) col w col3 w3 := by rw [hcol3]; exact St.new hb3 _ col 7
  have SK := Lib.hid (hk.below hb3)
  have HS := Lib.hid hb3.size
  clear h hl hk hr0 hr1 hr2 hcol3 hb3
  have HFF := Lib.hid hF
  have hsk4 : ∀ col' w', St (fun x => x = 1) col3 w3 col' w' → Sl w' 1 (.slice aK nK cK) nK (ints keep) := fun col' w' k => hka col' w' (K3r.trans k)
  clear hF hka
  go_enter Try.func12, Try.ntmps12
  go_upto_region 2 with fail
  rw [← hw3]
  clear hw3
  rcases okinds K with rfl | rfl | rfl | rfl | rfl | rfl | rfl | rfl | rfl | ⟨k0, k1, k2, k3, k4, k5, k6, k7, k8, n0, n1, n2, n3, n4, n5, n6, n7, n8⟩
  · have e0 : w3.cell? ⟨w.heap.size, 0, none⟩ = some (.int .i64 0) := X3.out.r0.cell 0
    have e1 : w3.cell? ⟨w.heap.size, 1, none⟩ = some (.int .i64 s) := X3.out.r0.cell 1
    try go_frame
    go_wp2_with fail
    refine (cread_nil s w3).mono ?_
    rintro e w4 ⟨rfl, rfl⟩
    clear e0 e1
    go_wp2_with fail
    refine (twin_any none 0 0 [] w3 (Sl.nil _ _) (by decide)).mono ?_
    rintro e w5 ⟨v5, rfl, ho5, hb5⟩
    obtain ⟨a5, c5, rfl⟩ := ho5.form
    have K5 : Hid (St D19 col w col3 w5) := Lib.hid (K3.out.trans (St.fresh hb5 _ col3))
    have X5 : Hid (Bx col3 w5 w.heap.size (w.heap.size + 1) (w.heap.size + 1 + 1) _ _) := Lib.hid (X3.out.st (St.fresh hb5 (fun _ => False) col3) (fun h => h))
    clear ho5 hb5 K3 X3 H3
    go_wp2_with (refine wpL_storeRow rfl _ _ _ rfl (cs := [.slice a5 0 c5, .bool false, .int .i64 2]) rfl rfl X5.out.r2 (by kernel_rfl) rfl rfl ?_; intro w6 hg6 hr6)
    have K := Lib.hid (K5.out.fresh1 hg6 (by omega))
    have X := Lib.hid (X5.out.put hg6 hr6)
    clear K5 X5 hg6 hr6
    go_loopw [10] (fun v10 wr => v10 = .int .i64 0 ∧ wr = w6) (fun _ _ => 0)
    case atStart => exact ⟨rfl, rfl⟩
    case round =>
      obtain ⟨rfl, rfl⟩ := hrel
      go_wp2_with (first | refine wpL_loadRow rfl _ _ rfl rfl X.out.r2 Try.underlying39 rfl (by kernel_rfl) ?_ | (refine wpL_storeRow rfl _ _ _ rfl rfl rfl X.out.r1 (by kernel_rfl) rfl rfl ?_; intro w9 hg9 hr9))
      (try simp only [Exit.inBlock, Exit.then])
      exact bodyPost_ret (results_cell_row Try.results12 _ _ (w.heap.size + 1) 39 _ (0, 0) _ rfl hr9 Try.underlying39 rfl (by kernel_rfl)) rfl ⟨_, _, _, rfl, col3, Lib.hid ⟨(fun _ => rfl), K.out.fresh1 hg9 (Nat.le_succ _)⟩⟩
  · have e0 : w3.cell? ⟨w.heap.size, 0, none⟩ = some (.int .i64 1) := X3.out.r0.cell 0
    have e2 : w3.cell? ⟨w.heap.size, 2, none⟩ = some (.slice aB nB cB) := X3.out.r0.cell 2
    try go_frame
    go_wp2_with fail
    refine (twin_any aB nB cB l w3 SB.out (by omega)).mono ?_
    rintro e w4 ⟨v4, rfl, ho4, hb4⟩
    obtain ⟨a4, c4, rfl⟩ := ho4.form
    clear e0 e2
    obtain ⟨col4, hcol4⟩ : ∃ x, x = recol col3 w3.heap.size 9 := ⟨_, rfl⟩
    have K4 : Hid (St D19 col w col4 w4) := Lib.hid (by rw [hcol4]; exact K3.out.trans (St.new hb4 _ col3 9))
    have X4 : Hid (Bx col4 w4 w.heap.size (w.heap.size + 1) (w.heap.size + 1 + 1) _ _) := Lib.hid (by rw [hcol4]; exact X3.out.st (St.new hb4 (fun _ => False) col3 9) (fun h => h))
    have O4 : Hid (OwnC col4 w4 9 1 (.slice a4 nB c4) nB (bvs l)) := Lib.hid (by rw [hcol4]; exact OwnC.new ho4)
    clear ho4 hb4 hcol4 K3 X3 H3
    have e1 : w4.cell? ⟨w.heap.size, 1, none⟩ = some (.int .i64 s) := X4.out.r0.cell 1
    go_wp2_with fail
    refine (cwrite_nil s _ w4).mono ?_
    rintro e w5 ⟨rfl, rfl⟩
    clear e1
    go_wp2_with (refine wpL_storeAt rfl _ _ _ rfl (v := .int .i64 2) rfl rfl rfl rfl (by kernel_rfl) X4.out.r2 rfl ?_; intro w6 hg6 hr6)
    go_loopw [12] (fun v12 wr => ∃ (i : Nat) (l2 : List UInt8), i ≤ nB ∧ v12 = .int .i64 (i : Nat) ∧ Hid (OwnC col4 wr 9 1 (.slice a4 nB c4) nB (bvs l2)) ∧ Hid (St D19 col w col4 wr) ∧ Hid (Bx col4 wr w.heap.size (w.heap.size + 1) (w.heap.size + 1 + 1) [.int .i64 1, .int .i64 s, .slice aB nB cB, .slice aK nK cK, .int .i64 t] [.slice none 0 0, .bool false, .int .i64 2])) (fun v12 _ => nB - (intOf v12).toNat)
    case atStart => exact ⟨0, _, Nat.zero_le _, rfl, Lib.hid (O4.out.st (X4.out.k1 hg6) (by decide)), Lib.hid (K4.out.fresh1 hg6 (by omega)), Lib.hid (X4.out.put hg6 hr6)⟩
    case round =>
      clear O4 K4 X4
      obtain ⟨i, l2, hi, rfl, O, K, X⟩ := hrel
      by_cases hlt' : (i : Int) < nB
      · have hlt : i < nB := by omega
        obtain ⟨g, off, cap, he, hg1, hg2, hg3, hg4, hlen⟩ := O.out.1.open (by omega) (by decide)
        cases he
        have hl2 : l2.length = nB := by rw [bvs_length] at hlen; omega
        have hc := O.out.1.get i (by rw [bvs_length]; omega)
        have hf := O.out.1.free i (by rw [bvs_length]; omega)
        rw [bvs_get _ _ (by omega)] at hc
        generalize hz : l2.getD i 0 = z at hc
        clear hz hl2 hlen hg1
        go_wp2_with (refine wpL_storeOwn (g := 0) rfl _ _ _ rfl (v := .int .u8 ((85 : UInt8).toNat : Int)) rfl rfl rfl rfl (by kernel_rfl) O.out.1 i rfl (by rw [bvs_length]; have := O.out.1.len; omega) ?_; intro w8 hg8 ho8)
        rw [bvs_set] at ho8
        have k8 : St (fun x => x = 9) col4 _ col4 w8 := St.one hg8 _ _ (O.out.2 g rfl)
        exact ⟨⟨i + 1, _, hlt, by go_num, Lib.hid ⟨ho8, O.out.2⟩, Lib.hid (K.out.trans (k8.mono (fun _ h => .inr h))), Lib.hid (X.out.st k8 (by decide))⟩, by simp [intOf]; omega⟩
      · go_wp2_with (first | refine wpL_loadRow rfl _ _ rfl rfl X.out.r2 Try.underlying39 rfl (by kernel_rfl) ?_ | (refine wpL_storeRow rfl _ _ _ rfl rfl rfl X.out.r1 (by kernel_rfl) rfl rfl ?_; intro w9 hg9 hr9))
        (try simp only [Exit.inBlock, Exit.then])
        exact bodyPost_ret (results_cell_row Try.results12 _ _ (w.heap.size + 1) 39 _ (0, 0) _ rfl hr9 Try.underlying39 rfl (by kernel_rfl)) rfl ⟨_, _, _, rfl, col4, Lib.hid ⟨(fun _ => rfl), K.out.fresh1 hg9 (Nat.le_succ _)⟩⟩
  · have e0 : w3.cell? ⟨w.heap.size, 0, none⟩ = some (.int .i64 2) := X3.out.r0.cell 0
    have e1 : w3.cell? ⟨w.heap.size, 1, none⟩ = some (.int .i64 s) := X3.out.r0.cell 1
    try go_frame
    go_wp2_with fail
    refine (pin_nil s w3).mono ?_
    rintro e w5 ⟨rfl, rfl⟩
    clear e0 e1
    have K5 := K3
    have X5 := X3
    clear K3 X3
    go_wp2_with (first | (refine wpL_storeAt rfl _ _ _ rfl (v := .int .i64 2) rfl rfl rfl rfl (by kernel_rfl) X5.out.r2 rfl ?_; intro w6 hg6 hr6) | refine wpL_loadRow rfl _ _ rfl rfl hr6 Try.underlying39 rfl (by kernel_rfl) ?_ | (refine wpL_storeRow rfl _ _ _ rfl rfl rfl (X5.out.r1.grown hg6 (fun e => X5.out.n1 (Option.some.inj e))) (by kernel_rfl) rfl rfl ?_; intro w9 hg9 hr9))
    have K := Lib.hid (K5.out.fresh1 hg6 (by omega))
    clear K5 hg6
    (try simp only [Exit.inBlock, Exit.then])
    exact bodyPost_ret (results_cell_row Try.results12 _ _ (w.heap.size + 1) 39 _ (0, 0) _ rfl hr9 Try.underlying39 rfl (by kernel_rfl)) rfl ⟨_, _, _, rfl, col3, Lib.hid ⟨(fun _ => rfl), K.out.fresh1 hg9 (Nat.le_succ _)⟩⟩
  · have e0 : w3.cell? ⟨w.heap.size, 0, none⟩ = some (.int .i64 3) := X3.out.r0.cell 0
    have e1 : w3.cell? ⟨w.heap.size, 1, none⟩ = some (.int .i64 s) := X3.out.r0.cell 1
    try go_frame
    go_wp2_with fail
    refine (unpin_nil s w3).mono ?_
    rintro e w5 ⟨rfl, rfl⟩
    clear e0 e1
    have K5 := K3
    have X5 := X3
    clear K3 X3
    go_wp2_with (first | (refine wpL_storeAt rfl _ _ _ rfl (v := .int .i64 2) rfl rfl rfl rfl (by kernel_rfl) X5.out.r2 rfl ?_; intro w6 hg6 hr6) | refine wpL_loadRow rfl _ _ rfl rfl hr6 Try.underlying39 rfl (by kernel_rfl) ?_ | (refine wpL_storeRow rfl _ _ _ rfl rfl rfl (X5.out.r1.grown hg6 (fun e => X5.out.n1 (Option.some.inj e))) (by kernel_rfl) rfl rfl ?_; intro w9 hg9 hr9))
    have K := Lib.hid (K5.out.fresh1 hg6 (by omega))
    clear K5 hg6
    (try simp only [Exit.inBlock, Exit.then])
    exact bodyPost_ret (results_cell_row Try.results12 _ _ (w.heap.size + 1) 39 _ (0, 0) _ rfl hr9 Try.underlying39 rfl (by kernel_rfl)) rfl ⟨_, _, _, rfl, col3, Lib.hid ⟨(fun _ => rfl), K.out.fresh1 hg9 (Nat.le_succ _)⟩⟩
  · have e0 : w3.cell? ⟨w.heap.size, 0, none⟩ = some (.int .i64 4) := X3.out.r0.cell 0
    have e1 : w3.cell? ⟨w.heap.size, 1, none⟩ = some (.int .i64 s) := X3.out.r0.cell 1
    try go_frame
    go_wp2_with fail
    refine (evict_nil s w3).mono ?_
    rintro e w5 ⟨rfl, rfl⟩
    clear e0 e1
    go_wp2_with (first | (refine wpL_storeAt rfl _ _ _ rfl (v := .bool false) rfl rfl rfl rfl (by kernel_rfl) X3.out.r2 rfl ?_; intro w6 hg6 hr6) | (refine wpL_storeAt rfl _ _ _ rfl (v := .int .i64 2) rfl rfl rfl rfl (by kernel_rfl) hr6 rfl ?_; intro w7 hg7 hr7) | refine wpL_loadRow rfl _ _ rfl rfl hr7 Try.underlying39 rfl (by kernel_rfl) ?_ | (refine wpL_storeRow rfl _ _ _ rfl rfl rfl ((X3.out.r1.grown hg6 (fun e => X3.out.n1 (Option.some.inj e))).grown hg7 (fun e => X3.out.n1 (Option.some.inj e))) (by kernel_rfl) rfl rfl ?_; intro w9 hg9 hr9))
    have K := Lib.hid ((K3.out.fresh1 hg6 (by omega)).fresh1 hg7 (by omega))
    (try simp only [Exit.inBlock, Exit.then])
    exact bodyPost_ret (results_cell_row Try.results12 _ _ (w.heap.size + 1) 39 _ (0, 0) _ rfl hr9 Try.underlying39 rfl (by kernel_rfl)) rfl ⟨_, _, _, rfl, col3, Lib.hid ⟨(fun _ => rfl), K.out.fresh1 hg9 (Nat.le_succ _)⟩⟩
  · have e0 : w3.cell? ⟨w.heap.size, 0, none⟩ = some (.int .i64 5) := X3.out.r0.cell 0
    have e1 : w3.cell? ⟨w.heap.size, 1, none⟩ = some (.int .i64 s) := X3.out.r0.cell 1
    try go_frame
    go_wp2_with fail
    refine (drop_nil s w3).mono ?_
    rintro e w5 ⟨rfl, rfl⟩
    clear e0 e1
    have K5 := K3
    have X5 := X3
    clear K3 X3
    go_wp2_with (first | (refine wpL_storeAt rfl _ _ _ rfl (v := .int .i64 2) rfl rfl rfl rfl (by kernel_rfl) X5.out.r2 rfl ?_; intro w6 hg6 hr6) | refine wpL_loadRow rfl _ _ rfl rfl hr6 Try.underlying39 rfl (by kernel_rfl) ?_ | (refine wpL_storeRow rfl _ _ _ rfl rfl rfl (X5.out.r1.grown hg6 (fun e => X5.out.n1 (Option.some.inj e))) (by kernel_rfl) rfl rfl ?_; intro w9 hg9 hr9))
    have K := Lib.hid (K5.out.fresh1 hg6 (by omega))
    clear K5 hg6
    (try simp only [Exit.inBlock, Exit.then])
    exact bodyPost_ret (results_cell_row Try.results12 _ _ (w.heap.size + 1) 39 _ (0, 0) _ rfl hr9 Try.underlying39 rfl (by kernel_rfl)) rfl ⟨_, _, _, rfl, col3, Lib.hid ⟨(fun _ => rfl), K.out.fresh1 hg9 (Nat.le_succ _)⟩⟩
  · have e0 : w3.cell? ⟨w.heap.size, 0, none⟩ = some (.int .i64 6) := X3.out.r0.cell 0
    try go_frame
    go_wp2_with fail
    refine (flush_nil w3).mono ?_
    rintro e w5 ⟨rfl, rfl⟩
    clear e0
    have K5 := K3
    have X5 := X3
    clear K3 X3
    go_wp2_with (first | (refine wpL_storeAt rfl _ _ _ rfl (v := .int .i64 2) rfl rfl rfl rfl (by kernel_rfl) X5.out.r2 rfl ?_; intro w6 hg6 hr6) | refine wpL_loadRow rfl _ _ rfl rfl hr6 Try.underlying39 rfl (by kernel_rfl) ?_ | (refine wpL_storeRow rfl _ _ _ rfl rfl rfl (X5.out.r1.grown hg6 (fun e => X5.out.n1 (Option.some.inj e))) (by kernel_rfl) rfl rfl ?_; intro w9 hg9 hr9))
    have K := Lib.hid (K5.out.fresh1 hg6 (by omega))
    clear K5 hg6
    (try simp only [Exit.inBlock, Exit.then])
    exact bodyPost_ret (results_cell_row Try.results12 _ _ (w.heap.size + 1) 39 _ (0, 0) _ rfl hr9 Try.underlying39 rfl (by kernel_rfl)) rfl ⟨_, _, _, rfl, col3, Lib.hid ⟨(fun _ => rfl), K.out.fresh1 hg9 (Nat.le_succ _)⟩⟩
  · have e0 : w3.cell? ⟨w.heap.size, 0, none⟩ = some (.int .i64 7) := X3.out.r0.cell 0
    try go_frame
    go_wp2_with fail
    refine (off_p 1 col3 bd D w3 H3.out (offD D) (Lib.hid rfl)).mono ?_
    rintro e w4 ⟨⟨v4, rfl⟩, col4, k4, h4⟩
    clear e0
    have K4 := Lib.hid (K3.out.trans (k4.mono (fun _ h => .inl h)))
    have X4 := Lib.hid (X3.out.st k4 (by decide))
    have H4 := Lib.hid h4
    have HF4 := Lib.hid (offD_fits HFF.out)
    have SK4 := Lib.hid (hsk4 col4 w4 k4)
    have q3 := laterK_cell (B := w4.heap.size) (show w4.cell? ⟨w.heap.size, 3, none⟩ = some (.slice aK nK cK) from X4.out.r0.cell 3) X4.out.r0.lt
    have q4 := laterK_cell (B := w4.heap.size) (show w4.cell? ⟨w.heap.size, 4, none⟩ = some (.int .i64 t) from X4.out.r0.cell 4) X4.out.r0.lt
    clear K3 X3 H3 k4 h4
    go_wp2_with fail
    refine wp_region_idx (RK w4.heap.size) (RK_refl _) (RK_trans _) [(0,0),(0,2),(0,3),(0,5),(0,6),(1,1),(1,4),(2,7),(2,8),(2,9)] (by kernel_rfl) (by kernel_rfl) (by kernel_rfl) ?_
    simp only [pickO, List.getD_cons_succ, List.getD_cons_zero]
    refine wpCan_seg 5 (by kernel_rfl) ?_
    simp only [List.take_succ_cons, List.take_zero, List.drop_succ_cons, List.drop_zero, List.map_cons, List.map_nil]
    iterate 5 (go_big_quiet_step (fail))
    refine wpQuiet_nil ?_
    clear q3 q4
    refine wpCan_list (k := 0) (fun KK hK => ?_) (fun _ => RK_refl _ _)
    go_wp2_with fail
    refine hK _ (w4.drew.alloc (.cells #[] 3)) (fun _ => RK.of ((Below.refl w4.heap.size w4.drew).alloc (Nat.le_refl _) _)) ?_
    clear hK KK
    refine wpCan_list (k := 0) (fun KK hK => ?_) (fun _ => RK_refl _ _)
    go_wp2_with (at_builtin; refine wpL_append0 etI rfl _ _ rfl w4.drew.heap.size rfl (SK4.out.below (Below.refl _ _).drew) rfl (ints_one _) (by omega) (by simp [maxLen]; omega) (Nat.le_refl _) ?_; intro v5 w5 ho5 hb5)
    refine hK _ _ (fun _ => RK.back (RK.of hb5) (RK.of ((Below.refl w4.heap.size w4.drew).alloc (Nat.le_refl _) _))) ?_
    clear hK KK
    obtain ⟨a5, c5, rfl⟩ := ho5.form
    have hb5' : Below w4.heap.size w4 w5 := (Below.refl w4.heap.size w4).drew.trans hb5
    obtain ⟨col5, hcol5⟩ : ∃ x, x = recol col4 w4.heap.size 9 := ⟨_, rfl⟩
    have K5 : Hid (St D19 col w col5 w5) := Lib.hid (by rw [hcol5]; exact K4.out.trans (St.new hb5' _ col4 9))
    have X5 : Hid (Bx col5 w5 w.heap.size (w.heap.size + 1) (w.heap.size + 1 + 1) _ _) := Lib.hid (by rw [hcol5]; exact X4.out.st (St.new hb5' (fun _ => False) col4 9) (fun h => h))
    have H5 : Hid (DkAt 62 1 col5 w5 bd (offD D)) := Lib.hid (by rw [hcol5]; exact H4.out.st (St.new hb5' (fun _ => False) col4 9) (fun h => h) (fun h => h))
    have HO5 := Lib.hid ho5
    have HC5 : Hid (∀ g, (Value.slice a5 nK c5).ownBlock = some g → ¬ col5 g = 1) := Lib.hid (fun g hg => by rw [hcol5, recol_ge (show w4.heap.size ≤ g from ho5.lt g hg)]; decide)
    clear ho5 hb5 hb5' hcol5 K4 X4 H4 SK4
    refine wpCan_list (k := 1) (fun KK hK => ?_) (fun h => by cases h)
    go_wp2_with fail
    refine (on_p 1 col5 bd (offD D) (k + 2) w5 H5.out HF4.out (by omega) t a5 nK c5 keep HO5.out.sl (fun _ => HC5.out) (onE (offD D)) (Lib.hid rfl) (onD (offD D) keep t) (Lib.hid rfl)).mono ?_
    rintro e w6 ⟨rfl, col6, k6, h6⟩
    have K6 := Lib.hid (K5.out.trans (k6.mono (fun _ h => .inl h)))
    have X6 := Lib.hid (X5.out.st k6 (by decide))
    clear k6 h6 K5 X5 H5 HO5 HC5
    generalize onE (offD D) = E
    go_wp2_with fail
    refine hK _ _ (fun h => by cases h) ?_
    clear hK KK
    refine wpCan_list (k := 1) (fun KK hK => ?_) (fun h => by cases h)
    go_wp2_with fail
    refine hK _ _ (fun h => by cases h) ?_
    clear hK KK
    refine wpCan_list (k := 1) (fun KK hK => ?_) (fun h => by cases h)
    go_wp2_with (refine wpL_storeAt rfl _ _ _ rfl (v := .int .i64 E) rfl rfl rfl rfl (by kernel_rfl) X6.out.r2 rfl ?_; intro w7 hg7 hr7)
    refine hK _ _ (fun h => by cases h) ?_
    clear hK KK
    unfold wpCan
    have K := Lib.hid (K6.out.fresh1 hg7 (by omega))
    have X := Lib.hid (X6.out.put hg7 hr7)
    clear K6 X6 hg7 hr7
    go_wp2_with (first | refine wpL_loadRow rfl _ _ rfl rfl X.out.r2 Try.underlying39 rfl (by kernel_rfl) ?_ | (refine wpL_storeRow rfl _ _ _ rfl rfl rfl X.out.r1 (by kernel_rfl) rfl rfl ?_; intro w9 hg9 hr9))
    (try simp only [Exit.inBlock, Exit.then])
    exact bodyPost_ret (results_cell_row Try.results12 _ _ (w.heap.size + 1) 39 _ (0, 0) _ rfl hr9 Try.underlying39 rfl (by kernel_rfl)) rfl ⟨_, _, _, rfl, col6, Lib.hid ⟨(fun h => by omega), K.out.fresh1 hg9 (Nat.le_succ _)⟩⟩
  · have e0 : w3.cell? ⟨w.heap.size, 0, none⟩ = some (.int .i64 8) := X3.out.r0.cell 0
    have e1 : w3.cell? ⟨w.heap.size, 1, none⟩ = some (.int .i64 s) := X3.out.r0.cell 1
    try go_frame
    go_wp2_with fail
    refine (arm_p 1 col3 bd D s w3 H3.out (armE D s) (Lib.hid rfl) (armD D s) (Lib.hid rfl)).mono ?_
    rintro e w5 ⟨rfl, col5, k5, h5⟩
    clear e0 e1
    have K5 := Lib.hid (K3.out.trans (k5.mono (fun _ h => .inl h)))
    have X5 := Lib.hid (X3.out.st k5 (by decide))
    clear K3 X3 k5 h5 H3
    generalize armE D s = E
    go_wp2_with (first | (refine wpL_storeAt rfl _ _ _ rfl (v := .int .i64 E) rfl rfl rfl rfl (by kernel_rfl) X5.out.r2 rfl ?_; intro w6 hg6 hr6) | refine wpL_loadRow rfl _ _ rfl rfl hr6 Try.underlying39 rfl (by kernel_rfl) ?_ | (refine wpL_storeRow rfl _ _ _ rfl rfl rfl (X5.out.r1.grown hg6 (fun e => X5.out.n1 (Option.some.inj e))) (by kernel_rfl) rfl rfl ?_; intro w9 hg9 hr9))
    have K := Lib.hid (K5.out.fresh1 hg6 (by omega))
    clear K5 hg6
    (try simp only [Exit.inBlock, Exit.then])
    exact bodyPost_ret (results_cell_row Try.results12 _ _ (w.heap.size + 1) 39 _ (0, 0) _ rfl hr9 Try.underlying39 rfl (by kernel_rfl)) rfl ⟨_, _, _, rfl, col5, Lib.hid ⟨(fun h => by omega), K.out.fresh1 hg9 (Nat.le_succ _)⟩⟩
  · have e0 : w3.cell? ⟨w.heap.size, 0, none⟩ = some (.int .i64 K) := X3.out.r0.cell 0
    have HNK : Hid (¬ (0 ≤ K ∧ K ≤ 6)) := Lib.hid (by omega)
    clear n0 n1 n2 n3 n4 n5 n6 n7 n8
    have K := K3
    have X := X3
    clear K3 H3 X3
    try go_frame
    go_wp2_with (first | refine wpL_loadRow rfl _ _ rfl rfl X.out.r2 Try.underlying39 rfl (by kernel_rfl) ?_ | (refine wpL_storeRow rfl _ _ _ rfl rfl rfl X.out.r1 (by kernel_rfl) rfl rfl ?_; intro w9 hg9 hr9))
    (try simp only [Exit.inBlock, Exit.then])
    exact bodyPost_ret (results_cell_row Try.results12 _ _ (w.heap.size + 1) 39 _ (0, 0) _ rfl hr9 Try.underlying39 rfl (by kernel_rfl)) rfl ⟨_, _, _, rfl, col3, Lib.hid ⟨(fun h => absurd h HNK.out), K.out.fresh1 hg9 (Nat.le_succ _)⟩⟩
end Go.Proofs.Ytchjfmgfoifbcaa
