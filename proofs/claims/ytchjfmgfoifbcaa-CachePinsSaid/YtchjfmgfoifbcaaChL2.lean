/-
  CachePins, walked. Conditions: none.
-/
import Derived.Test.YtchjfmgfoifbcaaChR
import Derived.Test.YtchjfmgfoifbcaaOpen
namespace Go.Proofs.Ytchjfmgfoifbcaa
open Go.RowKit
set_option linter.unusedVariables false
set_option linter.unusedSimpArgs false
set_option maxRecDepth 100000

structure PinI (C : Ch) (n t i k : Nat) : Prop where
  most : C.most = (n : Int)
  len : C.ks.length = i + (if 0 < k then 1 else 0)
  ks : ∀ x, x ∈ C.ks → (x < (i : Int) ∨ (x = (i : Int) ∧ 0 < k))
  in_ : ∀ x : Int, 0 ≤ x → (x < (i : Int) ∨ (x = (i : Int) ∧ 0 < k)) → x ∈ C.ks
  pins : ∀ x ∈ C.ks, (C.F x).pins = if x < (i : Int) then (t : Int) else (k : Int)
theorem pin_start (n t : Nat) : PinI (newC (newD 20) n) n t 0 0 :=
  ⟨rfl, rfl, fun x hx => by simp [newC] at hx, fun x h0 hx => by omega, fun x hx => by simp [newC] at hx⟩
theorem pin_step {C C' : Ch} {n t i k N : Nat} {E : Int} (h : PinI C n t i k) (HL : LiveC C 20 N) (hi : i < n) (hn : n ≤ 12) (ht : 0 < t) (hp : PinR 20 C i E C') : E = 0 ∧ PinI C' n t i (k + 1) ∧ LiveC C' 20 (N + 4) := by
  have hL' := (hp.live HL).1
  obtain ⟨C1, hb, hor⟩ := hp
  have hm : mayE 20 (i : Int) = 0 := by unfold mayE; rw [if_pos (by omega)]
  have hE : E = 0 := hb.zero hm (by
    by_cases hk : 0 < k
    · exact .inl (h.in_ i (by omega) (.inr ⟨rfl, hk⟩))
    · right; left
      rw [h.len, h.most, if_neg hk]; omega)
  have hB := hb.brought HL hE
  rcases hor with ⟨_, rfl⟩ | ⟨hne, _⟩
  rotate_left
  · exact absurd hE hne
  have hmem : (i : Int) ∈ C.ks ↔ 0 < k := ⟨fun hx => by rcases h.ks _ hx with h1 | h1 <;> omega, fun hk => h.in_ i (by omega) (.inr ⟨rfl, hk⟩)⟩
  have hown : (C1.F i).pins = (k : Int) := by
    rw [hB.own]
    split
    · rename_i hx; rw [h.pins _ hx, if_neg (by omega)]
    · rename_i hx
      have : ¬ 0 < k := fun hk => hx (hmem.2 hk)
      omega
  have hC1 : ∀ x, x ∈ C1.ks → x ≠ (i : Int) → x < (i : Int) ∧ (C1.F x).pins = (t : Int) := fun x hx hne => by
    obtain ⟨a1, a2, _⟩ := hB.others x hx hne
    have hlt : x < (i : Int) := by rcases h.ks x a1 with h1 | h1 <;> omega
    refine ⟨hlt, ?_⟩
    rw [a2, h.pins x a1, if_pos hlt]
  refine ⟨hE, ⟨hB.most.trans h.most, ?_, fun x hx => ?_, fun x h0 hx => ?_, fun x hx => ?_⟩, hL'⟩
  · show C1.ks.length = _
    rw [hB.len, h.len, h.most, if_pos (Nat.succ_pos k)]
    by_cases hk : 0 < k
    · rw [if_pos (hmem.2 hk), if_pos hk]
    · rw [if_neg (fun e => hk (hmem.1 e)), if_neg hk, if_pos (by omega)]
  · by_cases hxi : x = (i : Int)
    · exact .inr ⟨hxi, Nat.succ_pos k⟩
    · exact .inl (hC1 x hx hxi).1
  · show x ∈ C1.ks
    by_cases hxi : x = (i : Int)
    · rw [hxi]; exact hB.mem
    · have hlt : x < (i : Int) := by omega
      have hxC := h.in_ x h0 (.inl hlt)
      exact hB.stay x hxC (by rw [h.pins x hxC, if_pos hlt]; omega)
  · rw [(pinC_eq _ _ _ _).2.2]
    by_cases hxi : x = (i : Int)
    · rw [if_pos hxi, if_neg (by omega), hown]; omega
    · obtain ⟨h1, h2⟩ := hC1 x hx hxi
      rw [if_neg hxi, if_pos h1, h2]
theorem pin_roll {C : Ch} {n t i : Nat} (h : PinI C n t i t) (ht : 0 < t) : PinI C n t (i + 1) 0 :=
  ⟨h.most, by rw [h.len, if_pos ht, if_neg (by omega)], fun x hx => by rcases h.ks x hx with h1 | h1 <;> omega, fun x h0 hx => h.in_ x h0 (by omega), fun x hx => by
    have := h.ks x hx
    rw [h.pins x hx, ite_self, if_pos (by omega)]⟩
structure FulI (C : Ch) (n k : Nat) : Prop where
  most : C.most = (n : Int)
  len : C.ks.length = n
  ks : ∀ x, x ∈ C.ks → x < (n : Int)
  mem : (0 : Int) ∈ C.ks
  zero : (C.F 0).pins = (k : Int)
  pins : ∀ x ∈ C.ks, x ≠ 0 → (C.F x).pins ≠ 0
theorem pin_full {C : Ch} {n t : Nat} (h : PinI C n t n 0) (hn : 0 < n) (ht : 0 < t) : FulI C n t :=
  have h0 := h.in_ 0 (Int.le_refl _) (.inl (by omega))
  have hl : ∀ x, x ∈ C.ks → x < (n : Int) := fun x hx => by rcases h.ks x hx with h1 | h1 <;> omega
  ⟨h.most, by rw [h.len, if_neg (by omega)]; rfl, hl, h0, by rw [h.pins 0 h0, if_pos (hl 0 h0)], fun x hx _ => by rw [h.pins x hx, if_pos (hl x hx)]; omega⟩
theorem ful_15 {C : Ch} {n k : Nat} (h : FulI C n k) (hn : n ≤ 12) : (15 : Int) ∉ C.ks := fun hx => by have := h.ks _ hx; omega
theorem ful_pins {C : Ch} {n k : Nat} (h : FulI C n (k + 1)) : ∀ x ∈ C.ks, (C.F x).pins ≠ 0 := fun x hx => by
  by_cases hx0 : x = 0
  · rw [hx0, h.zero]; omega
  · exact h.pins x hx hx0
theorem ful_read {C C' : Ch} {n k : Nat} {E : Int} (h : FulI C n (k + 1)) (hn : n ≤ 12) (hb : BringR 20 C 15 E C') : E = 3 ∧ C' = C :=
  hb.three (by decide) (ful_15 h hn) (by rw [h.len, h.most]; omega) (ful_pins h)
theorem ful_evict {C C' : Ch} {n k : Nat} {is : Bool} (h : FulI C n (k + 1)) (he : EvictR C 0 is C') : is = false ∧ C' = C := by
  rcases he with ⟨_, h1, h2⟩ | ⟨_, x, hx, ⟨_, h1, h2⟩ | ⟨h1, _⟩⟩
  · exact ⟨h1, h2⟩
  · exact ⟨h1, h2⟩
  · exact absurd h1 (ful_pins h x hx)
theorem ful_held {C : Ch} {n k N : Nat} (h : FulI C n (k + 1)) (HL : LiveC C 20 N) : C.ks.countP (pinB C) = n := by
  rw [← h.len]
  exact List.countP_eq_length.2 (fun x hx => decide_eq_true (by have := ful_pins h x hx; have := (HL.pin x hx).1; omega))
theorem ful_drop {C C' : Ch} {n k : Nat} {E : Int} (h : FulI C n (k + 1)) (hd : DropR C 0 E C') : E = 3 ∧ C' = C := by
  rcases hd with ⟨h1, _⟩ | ⟨_, _, h1, h2⟩ | ⟨_, h1, _⟩
  · exact absurd h.mem h1
  · exact ⟨h1, h2⟩
  · exact absurd h1 (ful_pins h 0 h.mem)
theorem ful_unpin {C C' : Ch} {n k N : Nat} {E : Int} (h : FulI C n (k + 1)) (HL : LiveC C 20 N) (hd : UnpinR C 0 E C') : E = 0 ∧ FulI C' n k ∧ LiveC C' 20 N := by
  have hL' := (hd.live HL).1
  rcases hd with ⟨h1, _⟩ | ⟨_, h1, _⟩ | ⟨_, _, h1, rfl⟩
  · exact absurd h.mem h1
  · exact absurd h1 (ful_pins h 0 h.mem)
  · refine ⟨h1, ⟨h.most, h.len, h.ks, h.mem, ?_, fun x hx hne => ?_⟩, hL'⟩
    · rw [(pinC_eq _ _ _ _).2.2, if_pos rfl, h.zero]; omega
    · rw [(pinC_eq _ _ _ _).2.2, if_neg hne]; exact h.pins x hx hne
theorem ful_last {C C' : Ch} {n N : Nat} {E : Int} (h : FulI C n 0) (HL : LiveC C 20 N) (hn : n ≤ 12) (hb : BringR 20 C 15 E C') : E = 0 ∧ (0 : Int) ∉ C'.ks ∧ LiveC C' 20 (N + 3) := by
  have hE := hb.zero (by decide) (.inr (.inr ⟨0, h.mem, h.zero⟩))
  refine ⟨hE, ?_, (hb.live HL).1⟩
  rcases hb with ⟨h1, _, _⟩ | ⟨_, h1, _⟩ | ⟨_, _, e, C1, hr, ⟨_, h1, _⟩ | ⟨_, _, rfl⟩⟩
  · exact absurd h1 (by decide)
  · exact absurd h1 (ful_15 h hn)
  · rw [h1] at hE; cases hE
  · intro hx
    rcases mem_putK.1 (show (0 : Int) ∈ putK C1.ks 15 from hx) with hx | hx
    · rcases hr with ⟨h1, _⟩ | ⟨_, h1, _⟩ | ⟨_, x, hx1, hx0, _, rfl⟩
      · rw [h.len, h.most] at h1; omega
      · exact h1 0 h.mem h.zero
      · have hx00 : x = 0 := by
          by_cases e : x = 0
          · exact e
          · exact absurd hx0 (h.pins x hx1 e)
        subst hx00
        exact ((List.Nodup.mem_erase_iff HL.nd).1 (show (0 : Int) ∈ C.ks.erase 0 from hx)).1 rfl
    · cases hx
theorem ful_none {C C' : Ch} {E : Int} (h : (0 : Int) ∉ C.ks) (hd : UnpinR C 0 E C') : E = 7 := by
  rcases hd with ⟨_, h1, _⟩ | ⟨h1, _⟩ | ⟨h1, _⟩
  · exact h1
  · exact absurd h1 h
  · exact absurd h1 h
set_option maxHeartbeats 8000000 in
theorem cachePins_walk (F G : Nat) (hF : F < 256) (hG : G < 256) (w : World) :
    Calls Try.prog 6 #[.int .u8 (F : Int), .int .u8 (G : Int)] w fun e w' => e = .returned (.bool true) ∧ Below w.heap.size w w' := by
  obtain ⟨m, hm⟩ : ∃ m, m = F % 12 := ⟨_, rfl⟩
  obtain ⟨q, hq⟩ : ∃ q, q = G % 4 := ⟨_, rfl⟩
  have hFt : ((F : Int).tmod 12) = (m : Int) := by rw [hm, Int.tmod_eq_emod_of_nonneg (by omega)]; rfl
  have hGt : ((G : Int).tmod 4) = (q : Int) := by rw [hq, Int.tmod_eq_emod_of_nonneg (by omega)]; rfl
  have hFe : ((F : Int) % 12) = (m : Int) := by omega
  have hGe : ((G : Int) % 4) = (q : Int) := by omega
  obtain ⟨n, hn⟩ : ∃ n, n = m + 1 := ⟨_, rfl⟩
  obtain ⟨t, ht⟩ : ∃ t, t = q + 1 := ⟨_, rfl⟩
  have en : 1 + (m : Int) = (n : Int) := by omega
  have et : 1 + (q : Int) = (t : Int) := by omega
  have HN : Hid (0 < n ∧ n ≤ 12) := Lib.hid (by omega)
  have HT : Hid (0 < t ∧ t ≤ 4) := Lib.hid (by omega)
  have hn12 : n ≤ 12 := HN.out.2
  have ht4 : t ≤ 4 := HT.out.2
  clear hm hq hn ht
  go_enter Try.func6, Try.ntmps6
  go_wp2_with fail
  refine (dnew_p 20 (by decide) 1 (by decide) w col0).mono ?_
  rintro e w1 ⟨bd, rfl, col1, k1, h1'⟩
  have K1 : Hid (St NZ col0 w col1 w1) := Lib.hid (k1.mono (fun _ h => h.elim))
  have H1 := Lib.hid h1'
  clear k1 h1'
  clear en et hFt hGt hFe hGe
  go_wp2_with fail
  refine (cnew_p 5 1 (by decide) col1 bd (newD 20) n w1 H1.out (by have := HN.out; omega)).mono ?_
  rintro e w2 ⟨b, rfl, col2, k2, h2'⟩
  have K2 := Lib.hid (K1.out.trans (k2.mono (fun _ h => h.elim)))
  have H2 : Hid (CkAt 5 1 col2 w2 b bd (newC (newD 20) n)) := Lib.hid h2'
  clear k2 h2' H1 K1
  go_wp2_with fail
  go_loopw [10] (fun v10 wr => ∃ i N col C, i ≤ n ∧ v10 = .int .i64 (i : Nat) ∧ Hid (N ≤ 16 * i ∧ LiveC C 20 N ∧ PinI C n t i 0) ∧ Hid (St NZ col0 w col wr) ∧ Hid (CkAt 5 1 col wr b bd C)) (fun v10 _ => n - (intOf v10).toNat)
  case atStart => exact ⟨0, 0, col2, _, Nat.zero_le _, rfl, Lib.hid ⟨Nat.le_refl _, (LiveC.start (LiveD.start (n := 20) (by decide)).1 (by have := HN.out; omega)).1, pin_start n t⟩, K2, H2⟩
  case round =>
    obtain ⟨i, N, col, C, hi, rfl, HP, K, H⟩ := hrel
    by_cases hin : i = n
    · subst hin
      clear hi
      have HP2 : Hid (N ≤ 200 ∧ LiveC C 20 N ∧ FulI C i t) := Lib.hid ⟨by have := HP.out.1; have := HN.out; omega, HP.out.2.1, pin_full HP.out.2.2 HN.out.1 HT.out.1⟩
      clear HP K2 H2
      go_wp2_with fail
      go_loopw [12] (fun v12 wr => ∃ k C, k ≤ t ∧ v12 = .int .i64 (k : Nat) ∧ Hid (LiveC C 20 N ∧ FulI C i k) ∧ ∃ col, Hid (St NZ col0 w col wr) ∧ Hid (CkAt 5 1 col wr b bd C)) (fun v12 _ => (intOf v12).toNat)
      case atStart => exact ⟨t, C, Nat.le_refl _, rfl, Lib.hid HP2.out.2, col, K, H⟩
      case round =>
        clear K H
        obtain ⟨k, C, hk, rfl, HC, col, K, H⟩ := hrel
        cases k with
        | zero =>
          have k0 : ¬ (0 : Int) > ((0 : Nat) : Int) := by decide
          go_wp2_with fail
          refine (cread_q 5 1 col b bd C 20 N wr H.out HC.out.1 (by have := HP2.out; omega) n15 (by decide) 15).mono ?_
          rintro e w4 hrd
          obtain ⟨C4, a4, c4, col4, rfl, HH⟩ : ∃ C' a cc col', e = .returned (.tuple #[.slice a 256 cc, .int .i64 0]) ∧ Hid (BringR 20 C 15 0 C' ∧ St (CD 5 1) col wr col' w4 ∧ CkAt 5 1 col' w4 b bd C' ∧ OwnC col' w4 9 1 (.slice a 256 cc) 256 (bvs (C'.F 15).b)) := by
            rcases hrd with h | ⟨E, C', hE, _, HH⟩
            · exact h
            · have := (ful_last HC.out.2 HC.out.1 HN.out.2 HH.out.1).1
              omega
          have HC4 := Lib.hid (ful_last HC.out.2 HC.out.1 HN.out.2 HH.out.1).2
          have K4 := Lib.hid (K.out.trans (HH.out.2.1.mono nz1))
          have H4 := Lib.hid HH.out.2.2.1
          clear K H HH hrd
          go_wp2_with fail
          refine (unpin_q 5 1 col4 b bd C4 20 (N + 3) w4 H4.out HC4.out.2 (by have := HP2.out; omega) n15 (by decide) 0 (by decide)).mono ?_
          rintro e w5 ⟨E, C5, rfl, HH⟩
          obtain rfl := ful_none HC4.out.1 HH.out.1
          obtain ⟨col5, k5, h5⟩ := HH.out.2
          have K5 := Lib.hid (K4.out.trans (k5.mono nz1))
          clear k5 h5 HH K4 H4
          have hB5 := K5.out.below
          go_wp2_with fail
          refine (works_any w5).mono ?_
          rintro e wz ⟨rfl, hbz⟩
          go_wp2_with fail
          go_ret
          exact ⟨rfl, (hB5).trans (hbz.mono (hB5).size)⟩
        | succ k =>
          have k0 : (0 : Int) < ((k + 1 : Nat) : Int) := by omega
          go_wp2_with fail
          refine (cread_q 5 1 col b bd C 20 N wr H.out HC.out.1 (by have := HP2.out; omega) n15 (by decide) 15).mono ?_
          rintro e w4 hrd
          obtain ⟨col4, rfl, HH⟩ : ∃ col', e = .returned (.tuple #[.slice none 0 0, .int .i64 3]) ∧ Hid (St (CD 5 1) col wr col' w4 ∧ CkAt 5 1 col' w4 b bd C) := by
            rcases hrd with ⟨C', a, cc, col', he, HH⟩ | ⟨E, C', hE, he, HH⟩
            · have := (ful_read HC.out.2 HN.out.2 HH.out.1).1
              omega
            · obtain ⟨rfl, rfl⟩ := ful_read HC.out.2 HN.out.2 HH.out.1
              obtain ⟨col', k1, k2⟩ := HH.out.2
              exact ⟨col', he, Lib.hid ⟨k1, k2⟩⟩
          have K4 := Lib.hid (K.out.trans (HH.out.1.mono nz1))
          have H4 := Lib.hid HH.out.2
          clear K H HH hrd
          go_wp2_with fail
          refine (evict_q 5 1 col4 b bd C 20 N w4 H4.out HC.out.1 (by have := HP2.out; omega) n15 (by decide) 0 (by decide)).mono ?_
          rintro e w5 ⟨is, C5, rfl, HH⟩
          obtain ⟨rfl, h5⟩ := ful_evict HC.out.2 HH.out.1
          rw [h5] at HH
          obtain ⟨col5, k5, h5⟩ := HH.out.2
          have K5 := Lib.hid (K4.out.trans (k5.mono nz1))
          have H5 := Lib.hid h5
          clear k5 h5 HH K4 H4
          have hheld := ful_held HC.out.2 HC.out.1
          go_wp2_with fail
          refine (held_q 5 1 col5 b bd C 20 N w5 H5.out HC.out.1 (by have := HP2.out; omega) n15 (by decide)).mono ?_
          rintro e w6 ⟨rfl, hb6⟩
          rw [hheld]
          generalize C.ks.countP (dirtyB C) = dd
          generalize C.ks.length = hl
          clear hheld
          have K6 := Lib.hid (K5.out.down hb6)
          have H6 := Lib.hid (H5.out.st (St.fresh hb6 (fun _ => False) _) (fun h => h) (fun h => h) (fun h => h))
          clear hb6 K5 H5
          go_wp2_with fail
          refine (drop_q 5 1 col5 b bd C 20 N w6 H6.out HC.out.1 (by have := HP2.out; omega) n15 (by decide) 0 (by decide)).mono ?_
          rintro e w7 ⟨E, C7, rfl, HH⟩
          obtain ⟨rfl, h7⟩ := ful_drop HC.out.2 HH.out.1
          rw [h7] at HH
          obtain ⟨col7, k7, h7⟩ := HH.out.2
          have K7 := Lib.hid (K6.out.trans (k7.mono nz1))
          have H7 := Lib.hid h7
          clear k7 h7 HH K6 H6
          have hii : ((i : Int) != (i : Int)) = false := by simp
          go_wp2_with fail
          refine (unpin_q 5 1 col7 b bd C 20 N w7 H7.out HC.out.1 (by have := HP2.out; omega) n15 (by decide) 0 (by decide)).mono ?_
          rintro e w8 ⟨E, C8, rfl, HH⟩
          obtain ⟨rfl, g8, l8⟩ := ful_unpin HC.out.2 HC.out.1 HH.out.1
          obtain ⟨col8, k8, h8⟩ := HH.out.2
          have HC8 := Lib.hid (And.intro l8 g8)
          have K8 := Lib.hid (K7.out.trans (k8.mono nz1))
          have H8 := Lib.hid h8
          clear k8 h8 HH K7 H7 g8 l8
          go_wp2_with fail
          exact ⟨⟨k, C8, by omega, by go_num, HC8, col8, K8, H8⟩, by simp [intOf]⟩
    have hlt : i < n := by omega
    have hlt' : (i : Int) < n := by omega
    go_wp2_with fail
    go_loopw [11] (fun v11 wr => ∃ k N col C, k ≤ t ∧ v11 = .int .i64 (k : Nat) ∧ Hid (N ≤ 16 * i + 4 * k ∧ LiveC C 20 N ∧ PinI C n t i k) ∧ Hid (St NZ col0 w col wr) ∧ Hid (CkAt 5 1 col wr b bd C)) (fun v11 _ => t - (intOf v11).toNat)
    case atStart => exact ⟨0, N, col, C, Nat.zero_le _, rfl, HP, K, H⟩
    case round =>
      clear HP K H
      obtain ⟨k, N, col, C, hk, rfl, HP, K, H⟩ := hrel
      by_cases hkt : k = t
      · subst hkt
        go_wp2_with fail
        exact ⟨⟨i + 1, N, col, C, by omega, by go_num, Lib.hid ⟨by have := HP.out.1; have := HT.out; omega, HP.out.2.1, pin_roll HP.out.2.2 HT.out.1⟩, K, H⟩, by simp [intOf]; omega⟩
      have hklt : k < t := by omega
      have hklt' : (k : Int) < t := by omega
      go_wp2_with fail
      refine (pin_q 5 1 col b bd C 20 N wr H.out HP.out.2.1 (by have := HP.out.1; have := HN.out; have := HT.out; omega) n15 (by decide) i).mono ?_
      rintro e w3 ⟨E, C3, rfl, HH⟩
      obtain ⟨rfl, g1, g2⟩ := pin_step HP.out.2.2 HP.out.2.1 hlt HN.out.2 HT.out.1 HH.out.1
      obtain ⟨col3, k3, h3⟩ := HH.out.2
      have HP3 : Hid (N + 4 ≤ 16 * i + 4 * (k + 1) ∧ LiveC C3 20 (N + 4) ∧ PinI C3 n t i (k + 1)) := Lib.hid ⟨by have := HP.out.1; omega, g2, g1⟩
      have K3 := Lib.hid (K.out.trans (k3.mono nz1))
      have H3 := Lib.hid h3
      clear k3 h3 HH g1 g2 K H
      go_wp2_with fail
      exact ⟨⟨k + 1, N + 4, col3, C3, by omega, by go_num, HP3, K3, H3⟩, by simp [intOf]; omega⟩
theorem cachePins_any (a b : Int) (ha : (Lit.int .u8 a).wf = true) (hb : (Lit.int .u8 b).wf = true) (w : World) :
    Calls Try.prog 6 #[.int .u8 a, .int .u8 b] w fun e w' => e = .returned (.bool true) ∧ Below w.heap.size w w' := by
  obtain ⟨F, hF, rfl⟩ := nat_u8 ha
  obtain ⟨G, hG, rfl⟩ := nat_u8 hb
  exact cachePins_walk F G hF hG w
end Go.Proofs.Ytchjfmgfoifbcaa
