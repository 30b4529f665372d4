/-
  Barrier and On of a disk. Conditions: the disk reads as one.
-/
import Derived.Test.YtchjfmgfoifbcaaDskE
namespace Go.Proofs.Ytchjfmgfoifbcaa
open Go.RowKit
set_option linter.unusedVariables false
set_option linter.unusedSimpArgs false
set_option maxRecDepth 100000

theorem barrier_cases (D : Dk) : (D.dead = true ∧ barrierE D = 4 ∧ barrierD D = D) ∨ (D.dead = false ∧ (stepD D).dead = true ∧ powE (stepD D) = 4 ∧ barrierE D = 4 ∧ barrierD D = stepD D) ∨ (D.dead = false ∧ (stepD D).dead = false ∧ powE (stepD D) = 0 ∧ barrierE D = 0 ∧ barrierD D = settleD allF (stepD D)) := by
  cases hd : D.dead with
  | true => exact .inl ⟨rfl, by simp [barrierE, hd], by simp [barrierD, hd]⟩
  | false =>
    right
    cases hs : (stepD D).dead with
    | true => exact .inl ⟨rfl, rfl, by simp [powE, hs], by simp [barrierE, hd, powE, hs], by simp [barrierD, hd, hs]⟩
    | false => exact .inr ⟨rfl, rfl, by simp [powE, hs], by simp [barrierE, hd, powE, hs], by simp [barrierD, hd, hs]⟩
theorem Dk.Fits.settle {D : Dk} {k : Nat} (h : D.Fits k) {f : Nat → Nat × List UInt8 → Option (List UInt8)} (hf : Sane f) : (settleD f D).Fits k :=
  ⟨settleD_fit h.fit hf, h.arm, Nat.zero_le _, h.st0, h.st1, by show (settleN f D.S D.P D.P.length).length ≤ _; rw [settleN_len]; exact h.sec⟩
theorem DkAt.c2 {e : TypeId} {c : Nat} {col : Nat → Nat} {w : World} {b : Nat} {D : Dk} (h : DkAt e c col w b D) : w.cell? ⟨b, 2, none⟩ = some (.bool D.dead) := by
  obtain ⟨aS, cS, aP, cP, sv, pv, h⟩ := h
  exact h.row.cell 2
theorem barrier_p (c : Nat) (col : Nat → Nat) (b : Nat) (D : Dk) (k : Nat) (w : World) (h : DkAt 62 c col w b D) (hF : D.Fits k) (hk : k < 1073741823) (E : Int) (hE : Hid (E = barrierE D)) (T : Dk) (hT : Hid (T = barrierD D)) :
    Calls Try.prog 34 #[.pointer (some ⟨b, 0, none⟩)] w fun e w' => e = .returned (.int .i64 E) ∧ Made 62 c col w b T w' := by
  have c2 := h.c2
  have H := Lib.hid h
  clear h
  obtain ⟨S1, hS1⟩ : ∃ S1, S1 = stepD D := ⟨_, rfl⟩
  have HS1 := Lib.hid hS1
  obtain ⟨E1, hE1⟩ : ∃ E1, E1 = powE S1 := ⟨_, rfl⟩
  have HE1 := Lib.hid hE1
  rcases barrier_cases D with ⟨hd, h1, h2⟩ | ⟨hd, hd2, hp, h1, h2⟩ | ⟨hd, hd2, hp, h1, h2⟩
  · obtain rfl := hE.out.trans h1
    obtain rfl := hT.out.trans h2
    rw [hd] at c2
    clear hE hT h1 h2 hd hS1 hE1
    go_enter Try.func34, Try.ntmps34
    go_wp2_with fail
    refine (power_d b true w c2).mono ?_
    rintro e w5 ⟨rfl, rfl⟩
    go_wp2_with fail
    go_ret
    exact ⟨rfl, Made.refl H.out⟩
  · obtain rfl := hE.out.trans h1
    obtain rfl : T = S1 := by rw [hT.out, h2, hS1]
    rw [← hS1, ← hE1] at hp
    subst hp
    rw [hd] at c2
    clear hE hT h1 h2 hd hd2 hS1 hE1
    go_enter Try.func34, Try.ntmps34
    go_wp2_with fail
    refine (power_d b false w c2).mono ?_
    rintro e w5 ⟨rfl, rfl⟩
    go_wp2_with fail
    refine (step_p c col b D k w H.out hF (by omega) _ HS1 _ HE1).mono ?_
    rintro e w6 ⟨rfl, hm6⟩
    go_wp2_with fail
    go_ret
    exact ⟨rfl, hm6⟩
  · obtain rfl := hE.out.trans h1
    have HT : Hid (T = settleD allF S1) := Lib.hid (by rw [hT.out, h2, hS1])
    rw [← hS1, ← hE1] at hp
    subst hp
    rw [hd] at c2
    have hF1 : S1.Fits (k + 1) := by rw [hS1]; exact hF.step
    clear hE hT h1 h2 hd hd2 hS1 hE1
    go_enter Try.func34, Try.ntmps34
    go_wp2_with fail
    refine (power_d b false w c2).mono ?_
    rintro e w5 ⟨rfl, rfl⟩
    go_wp2_with fail
    refine (step_p c col b D k w H.out hF (by omega) _ HS1 _ HE1).mono ?_
    rintro e w6 ⟨rfl, col6, k6, h6⟩
    go_wp2_with fail
    refine (settle_bar c col6 b S1 (k + 1) w6 h6 hF1 (by omega) T HT).mono ?_
    rintro e w7 ⟨⟨v7, rfl⟩, hm7⟩
    go_wp2_with fail
    go_ret
    exact ⟨rfl, hm7.after k6⟩

theorem on_p (c : Nat) (col : Nat → Nat) (b : Nat) (D : Dk) (k : Nat) (w : World) (h : DkAt 62 c col w b D) (hF : D.Fits k) (hk : k < 1073741823) (torn : Int) (ak : Option Addr) (nk ck : Nat) (keep : List Int)
    (hk0 : Sl w 1 (.slice ak nk ck) nk (ints keep)) (hka : keep ≠ [] → ∀ g, (Value.slice ak nk ck).ownBlock = some g → ¬ col g = c) (E : Int) (hE : Hid (E = onE D)) (T : Dk) (hT : Hid (T = onD D keep torn)) :
    Calls Try.prog 29 #[.pointer (some ⟨b, 0, none⟩), .slice ak nk ck, .int .i64 torn] w fun e w' => e = .returned (.int .i64 E) ∧ Made 62 c col w b T w' := by
  have hmf : ∀ fn first cap w, (Instr.makeFunc fn first cap).run Try.prog w = .ok (.func fn first cap) w := fun _ _ _ _ => rfl
  have hb1 : Below w.heap.size w (w.alloc (.cells #[.slice ak nk ck] 35)) := (Below.refl _ _).alloc (Nat.le_refl _) _
  have hb2 : Below w.heap.size w ((w.alloc (.cells #[.slice ak nk ck] 35)).alloc (.cells #[.int .i64 torn] 3)) := hb1.alloc (by simp) _
  have hkb : ((w.alloc (.cells #[.slice ak nk ck] 35)).alloc (.cells #[.int .i64 torn] 3)).cell? ⟨w.heap.size, 0, none⟩ = some (.slice ak nk ck) := ((Row.new w [.slice ak nk ck] 35).alloc _).cell 0
  have htb : ((w.alloc (.cells #[.slice ak nk ck] 35)).alloc (.cells #[.int .i64 torn] 3)).cell? ⟨w.heap.size + 1, 0, none⟩ = some (.int .i64 torn) := by
    have := (Row.new (w.alloc (.cells #[.slice ak nk ck] 35)) [.int .i64 torn] 3).cell 0
    rw [World.size_alloc] at this
    exact this
  have k2 : St (fun _ => False) col w (recol col w.heap.size 0) ((w.alloc (.cells #[.slice ak nk ck] 35)).alloc (.cells #[.int .i64 torn] 3)) := St.new hb2 _ _ _
  have H2 := Lib.hid (h.st k2 (fun h => h) (fun h => h))
  have d2 := H2.out.c2
  have hnz : ¬ 0 = c := by obtain ⟨aS, cS, aP, cP, sv, pv, h⟩ := h; exact fun e => h.nz e.symm
  have hk2 := hk0.below hb2
  have hka2 : keep ≠ [] → ∀ g, (Value.slice ak nk ck).ownBlock = some g → ¬ recol col w.heap.size 0 g = c := by
    intro hne g hg
    rw [recol_lt (hk0.ownLt (by cases keep; exact absurd rfl hne; simp [ints]) hg)]
    exact hka hne g hg
  have hct : ¬ recol col w.heap.size 0 (w.heap.size + 1) = c := by rw [recol_ge (by omega)]; exact hnz
  have hck : ¬ recol col w.heap.size 0 w.heap.size = c := by rw [recol_ge (by omega)]; exact hnz
  have HA := Lib.hid (And.intro hka2 (And.intro hct (And.intro hck (And.intro hk2 (And.intro hkb htb)))))
  have K2 := Lib.hid k2
  clear hb1 hb2 hkb htb k2 hk2 hka2 hct hck hka hk0 hnz h
  cases hd : D.dead with
  | false =>
    obtain rfl : E = 3 := hE.out.trans (by simp [onE, hd])
    obtain rfl : T = D := hT.out.trans (by simp [onD, hd])
    rw [hd] at d2
    clear hE hT hd
    go_enter Try.func29, Try.ntmps29
    go_wp2_with fail
    go_ret
    exact ⟨rfl, _, K2.out.mono (fun _ h => h.elim), H2.out⟩
  | true =>
    obtain rfl : E = 0 := hE.out.trans (by simp [onE, hd])
    have HT2 : Hid (T = { settleD (keepF keep torn) D with dead := false, armed := 0 }) := Lib.hid (hT.out.trans (by simp [onD, hd]))
    rw [hd] at d2
    clear hE hT hd
    obtain ⟨S1, hS1⟩ : ∃ S1, S1 = settleD (keepF keep torn) D := ⟨_, rfl⟩
    rw [← hS1] at HT2
    have HS1 := Lib.hid hS1
    clear hS1
    go_enter Try.func29, Try.ntmps29
    go_wp2_with fail
    refine (settle_on c (recol col w.heap.size 0) b D k _ H2.out hF (by omega) (w.heap.size + 1) w.heap.size torn ak nk ck keep HA.out.2.2.2.2.2 HA.out.2.2.2.2.1 HA.out.2.2.2.1 HA.out.2.1 HA.out.2.2.1 HA.out.1 S1 HS1).mono ?_
    rintro e w3 ⟨⟨v3, rfl⟩, col3, k3, h3⟩
    have K3 := Lib.hid ((K2.out.mono (fun _ h => h.elim)).trans k3)
    obtain ⟨aS, cS, aP, cP, sv, pv, h3⟩ := h3
    have hr3 := h3.row
    have H3 := Lib.hid h3
    clear k3 h3 H2 d2 HA
    go_upto_region 7 with (first | (refine wpL_storeAt rfl _ _ _ rfl rfl rfl rfl rfl (by kernel_rfl) hr3 rfl ?_; intro w4 hg4 hr4; clear hr3) | (refine wpL_storeAt rfl _ _ _ rfl rfl rfl rfl rfl (by kernel_rfl) hr4 rfl ?_; intro w5 hg5 hr5))
    go_wp2_with fail
    go_ret
    have h5 := (H3.out.put hg4 _ _ _ hr4).put hg5 _ _ _ hr5
    rw [HT2.out]
    exact ⟨rfl, col3, (K3.out.trans (St.one hg4 _ _ H3.out.cb)).trans (St.one hg5 _ _ H3.out.cb), _, _, _, _, _, _, h5⟩
end Go.Proofs.Ytchjfmgfoifbcaa
