/-
  What a cache's steps leave, key by key; the plain law of works. No condition: plain laws.
-/
import Derived.Test.YtchjfmgfoifbcaaChG
namespace Go.Proofs.Ytchjfmgfoifbcaa
open Go.RowKit
set_option linter.unusedVariables false
set_option linter.unusedSimpArgs false

structure Brought (C : Ch) (s : Int) (C' : Ch) : Prop where
  mem : s ∈ C'.ks
  others : ∀ k ∈ C'.ks, k ≠ s → k ∈ C.ks ∧ (C'.F k).pins = (C.F k).pins ∧ (C'.F k).dirty = (C.F k).dirty
  own : (C'.F s).pins = if s ∈ C.ks then (C.F s).pins else 0
  clean : s ∉ C.ks → (C'.F s).dirty = false
  stay : ∀ k ∈ C.ks, (C.F k).pins ≠ 0 → k ∈ C'.ks
  len : C'.ks.length = if s ∈ C.ks then C.ks.length else if (C.ks.length : Int) < C.most then C.ks.length + 1 else C.ks.length
  most : C'.most = C.most
theorem putK_len {ks : List Int} {k : Int} (h : k ∉ ks) : (putK ks k).length = ks.length + 1 := by
  unfold putK; rw [if_neg h]; simp
theorem BringR.brought {n N : Nat} {C C' : Ch} {s E : Int} (h : BringR n C s E C') (hL : LiveC C n N) (hE : E = 0) : Brought C s C' := by
  subst hE
  rcases h with ⟨_, h, _⟩ | ⟨h1, h2, _, rfl⟩ | ⟨h1, h2, e, C1, hr, ⟨_, h, _⟩ | ⟨rfl, _, rfl⟩⟩
  · cases h
  · exact ⟨h2, fun k hk _ => ⟨hk, (useC_eq C s k).2.2, (useC_eq C s k).2.1⟩, by rw [if_pos h2]; exact (useC_eq C s s).2.2, fun e => absurd h2 e, fun k hk _ => hk, by rw [if_pos h2]; rfl, rfl⟩
  · cases h
  · obtain ⟨g1, g2, g3, g4, _, g6, _, _⟩ := hL.room hr
    have hs1 : s ∉ C1.ks := fun e => h2 (g2 _ e)
    have hF : ∀ k, k ≠ s → (addC C1 s (pickD C1.D s.toNat)).F k = C.F k := fun k hk => by
      show upd C1.F s _ k = _
      rw [upd_other hk, g3]
    have hFs : (addC C1 s (pickD C1.D s.toNat)).F s = ⟨pickD C1.D s.toNat, 0, false, 0⟩ := upd_same _ _ _
    refine ⟨mem_putK.2 (.inr rfl), fun k hk hne => ⟨g2 k ((mem_putK.1 hk).resolve_right hne), ?_, ?_⟩, ?_, fun _ => ?_, fun k hk hp => mem_putK.2 (.inl ?_), ?_, g4⟩
    · rw [(useC_eq _ s k).2.2, hF k hne]
    · rw [(useC_eq _ s k).2.1, hF k hne]
    · rw [if_neg h2, (useC_eq _ s s).2.2, hFs]
    · rw [(useC_eq _ s s).2.1, hFs]
    · rcases hr with ⟨_, _, rfl⟩ | ⟨_, _, h, _⟩ | ⟨_, x, hx, hxp, _, rfl⟩
      · exact hk
      · cases h
      · exact (List.Nodup.mem_erase_iff hL.nd).2 ⟨fun e => hp (by rw [e]; exact hxp), hk⟩
    · rw [if_neg h2]
      show (putK C1.ks s).length = _
      rw [putK_len hs1]
      rcases hr with ⟨hlt, _, rfl⟩ | ⟨_, _, h, _⟩ | ⟨hlt, x, hx, hxp, _, rfl⟩
      · rw [if_pos hlt]
      · cases h
      · rw [if_neg hlt]
        show (C.ks.erase x).length + 1 = _
        rw [List.length_erase_of_mem hx]
        have := List.length_pos_of_mem hx
        omega
theorem RoomR.zero {C C' : Ch} {E : Int} (h : RoomR C E C') (hf : (C.ks.length : Int) < C.most ∨ ∃ k ∈ C.ks, (C.F k).pins = 0) : E = 0 := by
  rcases h with ⟨_, h, _⟩ | ⟨h1, h2, _, _⟩ | ⟨_, _, _, _, h, _⟩
  · exact h
  · rcases hf with h3 | ⟨k, hk, hp⟩
    · exact absurd h3 h1
    · exact absurd hp (h2 k hk)
  · exact h
theorem BringR.zero {n : Nat} {C C' : Ch} {s E : Int} (h : BringR n C s E C') (hm : mayE n s = 0) (hf : s ∈ C.ks ∨ (C.ks.length : Int) < C.most ∨ ∃ k ∈ C.ks, (C.F k).pins = 0) : E = 0 := by
  rcases h with ⟨h, _, _⟩ | ⟨_, _, h, _⟩ | ⟨_, h2, e, C1, hr, ⟨he, _, _⟩ | ⟨_, h, _⟩⟩
  · rw [hm] at h; cases h
  · exact h
  · have := hr.zero (hf.resolve_left h2)
    rw [this] at he; cases he
  · exact h
theorem BringR.three {n : Nat} {C C' : Ch} {s E : Int} (h : BringR n C s E C') (hm : mayE n s = 0) (hs : s ∉ C.ks) (hl : ¬ (C.ks.length : Int) < C.most) (hp : ∀ k ∈ C.ks, (C.F k).pins ≠ 0) : E = 3 ∧ C' = C := by
  rcases h with ⟨h, _, _⟩ | ⟨_, h, _⟩ | ⟨_, h2, e, C1, hr, hor⟩
  · rw [hm] at h; cases h
  · exact absurd h hs
  · rcases hr with ⟨h3, _⟩ | ⟨_, _, rfl, rfl⟩ | ⟨_, k, hk, hk0, _⟩
    · exact absurd h3 hl
    · rcases hor with ⟨_, h5, h6⟩ | ⟨h5, _⟩
      · exact ⟨h5, h6⟩
      · cases h5
    · exact absurd hk0 (hp k hk)
theorem WriteR.fresh {n : Nat} {C C' : Ch} {s E : Int} {l : List UInt8} (h : WriteR n C s l E C') (hm : mayE n s = 0) (hl : l.length ≤ 256) (hs : s ∉ C.ks) (hlt : (C.ks.length : Int) < C.most) : E = 0 ∧ C' = setC (useC (addC C s []) s) s (fullB l) := by
  rcases h with ⟨h, _, _⟩ | ⟨_, h, _⟩ | ⟨_, _, h, _⟩ | ⟨_, _, _, e, C1, hr, hor⟩
  · rw [hm] at h; cases h
  · omega
  · exact absurd h hs
  · have hC1 : e = 0 ∧ C1 = C := by
      rcases hr with ⟨_, h1, h2⟩ | ⟨h1, _⟩ | ⟨h1, _⟩
      · exact ⟨h1, h2⟩
      · exact absurd hlt h1
      · exact absurd hlt h1
    obtain ⟨rfl, rfl⟩ := hC1
    rcases hor with ⟨h1, _⟩ | ⟨_, h1, h2⟩
    · cases h1
    · exact ⟨h1, h2⟩
theorem setC_eq (C : Ch) (s : Int) (b : List UInt8) (k : Int) : ((setC C s b).F k).pins = (C.F k).pins ∧ ((setC C s b).F k).dirty = (if k = s then true else (C.F k).dirty) := by
  unfold setC upd
  by_cases h : k = s <;> simp [h]
theorem addC_eq (C : Ch) (s : Int) (b : List UInt8) (k : Int) : (addC C s b).F k = if k = s then ⟨b, 0, false, 0⟩ else C.F k := rfl
/-! ### works -/
structure Wk (C : Ch) (N : Nat) : Prop where
  live : LiveC C 16 N
  true_ : TrueC C
  c3 : curC C 3 = fullB [97]
  c4 : curC C 4 = fullB [98]
  most : C.most = 2
def wkC0 : Ch := newC (newD 16) 2
theorem wk_0 : LiveC wkC0 16 0 ∧ TrueC wkC0 := by
  obtain ⟨h1, _⟩ := LiveD.start (n := 16) (by decide)
  obtain ⟨h2, h3, _⟩ := LiveC.start h1 (m := 2) (by decide)
  exact ⟨h2, h3⟩
theorem wk_1 {E : Int} {C1 : Ch} (h : WriteR 16 wkC0 3 [97] E C1) : E = 0 ∧ LiveC C1 16 3 ∧ TrueC C1 ∧ C1.ks = [3] ∧ C1.most = 2 ∧ (C1.F 3).pins = 0 ∧ (C1.F 3).dirty = true ∧ curC C1 3 = fullB [97] := by
  obtain ⟨rfl, h2⟩ := h.fresh (by decide) (by decide) (by decide) (by decide)
  obtain ⟨g1, _, _, _, _, g6⟩ := h.live wk_0.1
  obtain ⟨g7, g8⟩ := g6 wk_0.2
  have g9 := g8 3 (by decide)
  rw [if_pos ⟨rfl, rfl⟩] at g9
  refine ⟨rfl, g1, g7, by rw [h2]; rfl, by rw [h2]; rfl, ?_, ?_, g9⟩
  · rw [h2, (setC_eq _ _ _ _).1, (useC_eq _ _ _).2.2, addC_eq]; rfl
  · rw [h2, (setC_eq _ _ _ _).2]; rfl
theorem wk_2 {E : Int} {C1 C2 : Ch} {E1 : Int} (h1 : WriteR 16 wkC0 3 [97] E1 C1) (h : WriteR 16 C1 4 [98] E C2) : E = 0 ∧ Wk C2 6 ∧ C2.ks = [3, 4] ∧ ∀ k ∈ C2.ks, (C2.F k).pins = 0 ∧ (C2.F k).dirty = true := by
  obtain ⟨_, l1, t1, k1, m1, p1, d1, c1⟩ := wk_1 h1
  obtain ⟨rfl, h2⟩ := h.fresh (by decide) (by decide) (by rw [k1]; decide) (by rw [k1, m1]; decide)
  obtain ⟨g1, _, _, _, _, g6⟩ := h.live l1
  obtain ⟨g7, g8⟩ := g6 t1
  have g9 := g8 4 (by decide)
  rw [if_pos ⟨rfl, rfl⟩] at g9
  have g10 := g8 3 (by decide)
  rw [if_neg (by decide), c1] at g10
  have hks : C2.ks = [3, 4] := by rw [h2]; show putK C1.ks 4 = _; rw [k1]; decide
  refine ⟨rfl, ⟨g1, g7, g10, g9, by rw [h2]; exact m1⟩, hks, fun k hk => ?_⟩
  rw [hks] at hk
  rw [h2, (setC_eq _ _ _ _).1, (setC_eq _ _ _ _).2, (useC_eq _ _ _).2.2, (useC_eq _ _ _).2.1, addC_eq]
  rcases List.mem_cons.1 hk with rfl | hk
  · rw [if_neg (by decide), if_neg (by decide)]
    exact ⟨p1, d1⟩
  · rw [List.mem_singleton.1 hk]
    exact ⟨rfl, rfl⟩
theorem Wk.bring {C C' : Ch} {N : Nat} {s E : Int} (h : Wk C N) (hb : BringR 16 C s E C') : Wk C' (N + 3) := by
  obtain ⟨g1, _, _, g4, _⟩ := hb.live h.live
  obtain ⟨t1, t2⟩ := g4 h.true_
  have hmost : C'.most = C.most := by
    rcases hb with ⟨_, _, rfl⟩ | ⟨_, _, _, rfl⟩ | ⟨_, _, e, C1, hr, ⟨_, _, rfl⟩ | ⟨_, _, rfl⟩⟩
    · rfl
    · rfl
    · exact (h.live.room hr).2.2.2.1
    · exact (h.live.room hr).2.2.2.1
  exact ⟨g1, t1, by rw [t2 3 (by decide)]; exact h.c3, by rw [t2 4 (by decide)]; exact h.c4, by rw [hmost]; exact h.most⟩
theorem two_of {ks : List Int} (hl : ks.length = 2) {x : Int} (hx : x ∈ ks) : (∃ y, ks = [x, y]) ∨ ∃ y, ks = [y, x] := by
  cases ks with
  | nil => cases hl
  | cons a r =>
    cases r with
    | nil => cases hl
    | cons b r =>
      cases r with
      | nil =>
        rcases List.mem_cons.1 hx with rfl | hx
        · exact .inl ⟨b, rfl⟩
        · rw [List.mem_singleton.1 hx]; exact .inr ⟨a, rfl⟩
      | cons c r => simp at hl
theorem wk_3 {C2 C3 : Ch} {E : Int} (h : Wk C2 6) (hk : C2.ks = [3, 4]) (hp : ∀ k ∈ C2.ks, (C2.F k).pins = 0 ∧ (C2.F k).dirty = true) (hb : BringR 16 C2 5 E C3) :
    E = 0 ∧ Wk C3 9 ∧ C3.ks.length = 2 ∧ (∀ k ∈ C3.ks, (C3.F k).pins = 0) ∧ C3.ks.countP (dirtyB C3) = 1 := by
  have hE := hb.zero (by decide) (.inr (.inr ⟨3, by rw [hk]; decide, (hp 3 (by rw [hk]; decide)).1⟩))
  have hB := hb.brought h.live hE
  have h5 : (5 : Int) ∉ C2.ks := by rw [hk]; decide
  have hW := h.bring hb
  have hlen : C3.ks.length = 2 := by rw [hB.len, if_neg h5, hk, h.most]; decide
  have hpin : ∀ k ∈ C3.ks, (C3.F k).pins = 0 := fun k hk3 => by
    by_cases h5k : k = 5
    · rw [h5k, hB.own, if_neg h5]
    · obtain ⟨a1, a2, _⟩ := hB.others k hk3 h5k
      rw [a2]; exact (hp k a1).1
  refine ⟨hE, hW, hlen, hpin, ?_⟩
  have hd5 := hB.clean h5
  have hoth : ∀ k ∈ C3.ks, k ≠ 5 → (C3.F k).dirty = true := fun k hk3 hne => by
    obtain ⟨a1, _, a3⟩ := hB.others k hk3 hne
    rw [a3]; exact (hp k a1).2
  have hnd := hW.live.nd
  rcases two_of hlen hB.mem with ⟨y, e⟩ | ⟨y, e⟩
  · rw [e] at hnd hoth ⊢
    have hy : y ≠ 5 := fun e => by subst e; simp at hnd
    have hdy := hoth y (by simp) hy
    simp [List.countP_cons, dirtyB, hd5, hdy]
  · rw [e] at hnd hoth ⊢
    have hy : y ≠ 5 := fun e => by subst e; simp at hnd
    have hdy := hoth y (by simp) hy
    simp [List.countP_cons, dirtyB, hd5, hdy]
theorem wk_4 {C3 C4 : Ch} {E : Int} (h : Wk C3 9) (hl : C3.ks.length = 2) (hp : ∀ k ∈ C3.ks, (C3.F k).pins = 0) (hb : BringR 16 C3 3 E C4) :
    E = 0 ∧ Wk C4 12 ∧ C4.ks.length = 2 ∧ (∀ k ∈ C4.ks, (C4.F k).pins = 0) ∧ (C4.F 3).b = fullB [97] ∧ (3 : Int) ∈ C4.ks := by
  obtain ⟨x, hx⟩ : ∃ x, x ∈ C3.ks := by
    cases hks : C3.ks with
    | nil => rw [hks] at hl; cases hl
    | cons x r => exact ⟨x, by simp⟩
  have hE := hb.zero (by decide) (.inr (.inr ⟨x, hx, hp x hx⟩))
  have hB := hb.brought h.live hE
  have hW := h.bring hb
  have hlen : C4.ks.length = 2 := by
    rw [hB.len, hl, h.most]
    split
    · rfl
    · decide
  refine ⟨hE, hW, hlen, fun k hk => ?_, ?_, hB.mem⟩
  · by_cases h3 : k = 3
    · rw [h3, hB.own]
      split
      · rename_i h; exact hp 3 h
      · rfl
    · obtain ⟨a1, a2, _⟩ := hB.others k hk h3
      rw [a2]; exact hp k a1
  · have := hW.c3
    unfold curC at this
    rw [if_pos (show ((3 : Nat) : Int) ∈ C4.ks from hB.mem)] at this
    exact this
theorem wk_5 {C4 C5 : Ch} {E : Int} (h : Wk C4 12) (hl : C4.ks.length = 2) (hp : ∀ k ∈ C4.ks, (C4.F k).pins = 0) (h3 : (3 : Int) ∈ C4.ks) (hb : PinR 16 C4 3 E C5) :
    E = 0 ∧ Wk C5 16 ∧ C5.ks.length = 2 ∧ (3 : Int) ∈ C5.ks ∧ (∀ k ∈ C5.ks, (C5.F k).pins = if k = 3 then 1 else 0) := by
  obtain ⟨C1, hb1, hor⟩ := hb
  have hE := hb1.zero (by decide) (.inl h3)
  have hB := hb1.brought h.live hE
  have hW := h.bring hb1
  have hown : (C1.F 3).pins = 0 := by rw [hB.own, if_pos h3]; exact hp 3 h3
  rcases hor with ⟨_, rfl⟩ | ⟨hne, _⟩
  rotate_left
  · exact absurd hE hne
  obtain ⟨k1, k2, k3⟩ := (hW.live.le (show 12 + 3 ≤ 16 by omega)).pinc (s := 3) (p := (C1.F 3).pins + 1) (by rw [hown]; decide)
  refine ⟨hE, ⟨k1, k2 hW.true_, by rw [k3]; exact hW.c3, by rw [k3]; exact hW.c4, hW.most⟩, ?_, hB.mem, fun k hk => ?_⟩
  · show C1.ks.length = 2
    rw [hB.len, if_pos h3, hl]
  · rw [(pinC_eq _ _ _ _).2.2, hown]
    by_cases h : k = 3
    · rw [if_pos h, if_pos h]; rfl
    · rw [if_neg h, if_neg h]
      obtain ⟨a1, a2, _⟩ := hB.others k hk h
      rw [a2]; exact hp k a1
theorem wk_6 {C5 C6 : Ch} {E : Int} (h : Wk C5 16) (hl : C5.ks.length = 2) (h3 : (3 : Int) ∈ C5.ks) (hp : ∀ k ∈ C5.ks, (C5.F k).pins = if k = 3 then 1 else 0) (hb : PinR 16 C5 5 E C6) :
    E = 0 ∧ Wk C6 20 ∧ C6.ks.length = 2 ∧ (6 : Int) ∉ C6.ks ∧ (∀ k ∈ C6.ks, (C6.F k).pins ≠ 0) := by
  obtain ⟨C1, hb1, hor⟩ := hb
  have hfree : (5 : Int) ∈ C5.ks ∨ (C5.ks.length : Int) < C5.most ∨ ∃ k ∈ C5.ks, (C5.F k).pins = 0 := by
    rcases two_of hl h3 with ⟨y, e⟩ | ⟨y, e⟩
    · have hnd := h.live.nd
      rw [e] at hnd
      have hy : y ≠ 3 := fun e => by subst e; simp at hnd
      exact .inr (.inr ⟨y, by rw [e]; simp, by rw [hp y (by rw [e]; simp), if_neg hy]⟩)
    · have hnd := h.live.nd
      rw [e] at hnd
      have hy : y ≠ 3 := fun e => by subst e; simp at hnd
      exact .inr (.inr ⟨y, by rw [e]; simp, by rw [hp y (by rw [e]; simp), if_neg hy]⟩)
  have hE := hb1.zero (by decide) hfree
  have hB := hb1.brought h.live hE
  have hW := h.bring hb1
  have hown : (C1.F 5).pins = 0 := by
    rw [hB.own]
    split
    · rename_i h5; rw [hp 5 h5]; decide
    · rfl
  have h31 : (3 : Int) ∈ C1.ks := hB.stay 3 h3 (by rw [hp 3 h3]; decide)
  have hlen : C1.ks.length = 2 := by
    rw [hB.len, hl, h.most]
    split
    · rfl
    · decide
  have hks : ∀ k ∈ C1.ks, k = 3 ∨ k = 5 := fun k hk => by
    rcases two_of hlen h31 with ⟨y, e⟩ | ⟨y, e⟩
    · have h5 := hB.mem
      rw [e] at h5 hk
      simp at h5 hk
      rcases hk with rfl | rfl
      · exact .inl rfl
      · exact .inr h5.symm
    · have h5 := hB.mem
      rw [e] at h5 hk
      simp at h5 hk
      rcases hk with rfl | rfl
      · exact .inr h5.symm
      · exact .inl rfl
  rcases hor with ⟨_, rfl⟩ | ⟨hne, _⟩
  rotate_left
  · exact absurd hE hne
  obtain ⟨k1, k2, k3⟩ := (hW.live.le (show 16 + 3 ≤ 20 by omega)).pinc (s := 5) (p := (C1.F 5).pins + 1) (by rw [hown]; decide)
  refine ⟨hE, ⟨k1, k2 hW.true_, by rw [k3]; exact hW.c3, by rw [k3]; exact hW.c4, hW.most⟩, hlen, fun h6 => ?_, fun k hk => ?_⟩
  · rcases hks 6 h6 with h | h <;> cases h
  · rw [(pinC_eq _ _ _ _).2.2, hown]
    rcases hks k hk with rfl | rfl
    · rw [if_neg (by decide), (hB.others 3 h31 (by decide)).2.1, hp 3 h3]; decide
    · rw [if_pos rfl]; decide
theorem wk_7 {C6 C7 : Ch} {E : Int} (h : Wk C6 20) (hl : C6.ks.length = 2) (h6 : (6 : Int) ∉ C6.ks) (hp : ∀ k ∈ C6.ks, (C6.F k).pins ≠ 0) (hb : BringR 16 C6 6 E C7) : E = 3 ∧ C7 = C6 :=
  hb.three (by decide) h6 (by rw [hl, h.most]; decide) hp
theorem wk_8 {C6 C8 : Ch} (h : Wk C6 20) (hf : FlushR C6 C8) : C8.D.S.getD 4 [] = fullB [98] ∧ ∃ N, N ≤ 100000 ∧ LiveC C8 16 N := by
  obtain ⟨g1, _, _, _, g5⟩ := hf.live h.live
  have := h.live.few
  have := h.most
  exact ⟨by rw [(g5 h.true_).2.2 4 (by decide)]; exact h.c4, _, by omega, g1⟩
end Go.Proofs.Ytchjfmgfoifbcaa
