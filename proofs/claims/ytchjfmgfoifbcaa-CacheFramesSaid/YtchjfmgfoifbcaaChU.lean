/-
  A cache without pins: what its answers are. No condition: plain laws.
-/
import Derived.Test.YtchjfmgfoifbcaaChS
namespace Go.Proofs.Ytchjfmgfoifbcaa
open Go.RowKit
set_option linter.unusedVariables false
set_option linter.unusedSimpArgs false
set_option maxRecDepth 100000

def NoPins (C : Ch) : Prop := ∀ k ∈ C.ks, (C.F k).pins = 0
theorem np_free {n N : Nat} {C : Ch} (hL : LiveC C n N) (hp : NoPins C) : (C.ks.length : Int) < C.most ∨ ∃ k ∈ C.ks, (C.F k).pins = 0 := by
  by_cases h : (C.ks.length : Int) < C.most
  · exact .inl h
  · right
    have := hL.mst.1
    obtain ⟨k, hk⟩ : ∃ k, k ∈ C.ks := by
      cases hks : C.ks with
      | nil => rw [hks] at h; simp at h; omega
      | cons x r => exact ⟨x, by simp⟩
    exact ⟨k, hk, hp k hk⟩
theorem np_room {n N : Nat} {C C' : Ch} {E : Int} (h : RoomR C E C') (hL : LiveC C n N) (hp : NoPins C) : NoPins C' := by
  obtain ⟨_, g2, g3, _⟩ := hL.room h
  exact fun k hk => by rw [g3]; exact hp k (g2 k hk)
theorem np_use {C : Ch} (hp : NoPins C) (s : Int) : NoPins (useC C s) := fun k hk => by rw [(useC_eq C s k).2.2]; exact hp k hk
theorem np_add {C : Ch} (hp : NoPins C) (s : Int) (b : List UInt8) : NoPins (addC C s b) := fun k hk => by
  rw [addC_eq]
  by_cases h : k = s
  · rw [if_pos h]
  · rw [if_neg h]
    exact hp k ((mem_putK.1 hk).resolve_right h)
theorem np_set {C : Ch} (hp : NoPins C) (s : Int) (b : List UInt8) : NoPins (setC C s b) := fun k hk => by
  rw [(setC_eq C s b k).1]
  exact hp k hk
theorem np_bring {n N : Nat} {C C' : Ch} {s E : Int} (h : BringR n C s E C') (hL : LiveC C n N) (hp : NoPins C) : NoPins C' ∧ E = mayE n s := by
  rcases h with ⟨h1, h2, rfl⟩ | ⟨h1, h2, h3, rfl⟩ | ⟨h1, h2, e, C1, hr, ⟨h3, h4, rfl⟩ | ⟨h3, h4, rfl⟩⟩
  · exact ⟨hp, h2.trans h1.symm⟩
  · exact ⟨np_use hp s, h3.trans h1.symm⟩
  · have := hr.zero (np_free hL hp)
    rw [h3] at this
    cases this
  · exact ⟨np_use (np_add (np_room hr hL hp) _ _) _, h4.trans h1.symm⟩
def wrE (n : Nat) (s : Int) (l : List UInt8) : Int := if mayE n s = 0 ∧ l.length ≤ 256 then 0 else 1
theorem np_write {n N : Nat} {C C' : Ch} {s E : Int} {l : List UInt8} (h : WriteR n C s l E C') (hL : LiveC C n N) (hp : NoPins C) : NoPins C' ∧ E = wrE n s l := by
  unfold wrE
  rcases h with ⟨h1, h2, rfl⟩ | ⟨h1, h2, h3, rfl⟩ | ⟨h1, h2, h3, h4, rfl⟩ | ⟨h1, h2, h3, e, C1, hr, ⟨h4, h5, rfl⟩ | ⟨h4, h5, rfl⟩⟩
  · exact ⟨hp, by rw [if_neg (fun e => by rw [h1] at e; exact absurd e.1 (by decide))]; exact h2⟩
  · exact ⟨hp, by rw [if_neg (fun e => by omega)]; exact h3⟩
  · exact ⟨np_set (np_use hp s) _ _, by rw [if_pos ⟨h1, h2⟩]; exact h4⟩
  · have := hr.zero (np_free hL hp)
    rw [h4] at this
    cases this
  · exact ⟨np_set (np_use (np_add (np_room hr hL hp) _ _) _) _ _, by rw [if_pos ⟨h1, h2⟩]; exact h5⟩
theorem np_evict {C C' : Ch} {k : Int} {is : Bool} (h : EvictR C k is C') (hp : NoPins C) : NoPins C' := by
  rcases h with ⟨_, _, rfl⟩ | ⟨_, x, hx, ⟨_, _, rfl⟩ | ⟨_, _, rfl⟩⟩
  · exact hp
  · exact hp
  · exact fun k hk => hp k (List.mem_of_mem_erase hk)
theorem np_flush {n N : Nat} {C C' : Ch} (h : FlushR C C') (hL : LiveC C n N) (hp : NoPins C) : NoPins C' := by
  obtain ⟨_, g2, _, g4, _⟩ := h.live hL
  exact fun k hk => by rw [g4]; exact hp k (g2 ▸ hk)
/-- the error of a Read, a Write, an Evict or a Flush -/
def frE (n : Nat) (K s : Int) (l : List UInt8) : Int := if K = 0 then mayE n s else if K = 1 then wrE n s l else 0
theorem OpR.np {n N : Nat} {C C' : Ch} {K s E : Int} {l : List UInt8} {is : Bool} {B : List UInt8} (hL : LiveC C n N) (hp : NoPins C) (hK : K = 0 ∨ K = 1 ∨ K = 4 ∨ K = 6) (hr : OpR n C K s l is E B C') : NoPins C' ∧ E = frE n K s l := by
  unfold frE
  rcases hr with ⟨rfl, rfl, hb, hB⟩ | ⟨rfl, rfl, rfl, hw⟩ | ⟨rfl, rfl, rfl, hpn⟩ | ⟨rfl, rfl, rfl, hu⟩ | ⟨rfl, rfl, rfl, he⟩ | ⟨rfl, rfl, rfl, rfl, hf⟩ | ⟨hne, rfl, rfl, rfl, rfl⟩
  · obtain ⟨g1, g2⟩ := np_bring hb hL hp
    exact ⟨g1, by rw [if_pos rfl]; exact g2⟩
  · obtain ⟨g1, g2⟩ := np_write hw hL hp
    exact ⟨g1, by rw [if_neg (by decide), if_pos rfl]; exact g2⟩
  · rcases hK with h | h | h | h <;> cases h
  · rcases hK with h | h | h | h <;> cases h
  · exact ⟨np_evict he hp, by rw [if_neg (by decide), if_neg (by decide)]⟩
  · exact ⟨np_flush hf hL hp, by rw [if_neg (by decide), if_neg (by decide)]⟩
  · rcases hK with h | h | h | h
    · exact absurd h hne.1
    · exact absurd h hne.2.1
    · exact absurd h hne.2.2.2.2.1
    · exact absurd h hne.2.2.2.2.2
/-- two caches of the same contents answer alike -/
theorem fr_both {n N : Nat} {C1 C2 C1' C2' : Ch} {L : List (List UInt8)} {m1 m2 K s E1 E2 : Int} {l : List UInt8} {is1 is2 : Bool} {B1 B2 : List UInt8} (h1 : KpI C1 L n m1 N) (h2 : KpI C2 L n m2 N) (hm1 : m1 ≤ 30) (hm2 : m2 ≤ 30) (p1 : NoPins C1) (p2 : NoPins C2) (hK : K = 0 ∨ K = 1 ∨ K = 4 ∨ K = 6) (r1 : OpR n C1 K s l is1 E1 B1 C1') (r2 : OpR n C2 K s l is2 E2 B2 C2') :
    E1 = E2 ∧ (K = 0 → B1 = B2) ∧ ∃ L', KpI C1' L' n m1 (N + 70) ∧ KpI C2' L' n m2 (N + 70) ∧ NoPins C1' ∧ NoPins C2' := by
  obtain ⟨a1, a2⟩ := OpR.np h1.live p1 hK r1
  obtain ⟨b1, b2⟩ := OpR.np h2.live p2 hK r2
  have hE : E1 = E2 := a2.trans b2.symm
  subst hE
  obtain ⟨x1, x2, x3, _⟩ := OpR.kp h1 hm1 r1
  obtain ⟨y1, y2, y3, _⟩ := OpR.kp h2 hm2 r2
  refine ⟨rfl, fun hK0 => ?_, ?_⟩
  · by_cases hE : E1 = 0
    · obtain ⟨q, hq, _, e1⟩ := x3 hK0 hE
      obtain ⟨q', hq', _, e2⟩ := y3 hK0 hE
      have : q = q' := by omega
      subst this
      rw [e1, e2]
    · have nb : ∀ {C C' : Ch} {is : Bool} {B : List UInt8}, OpR n C K s l is E1 B C' → B = [] := fun h => by
        rcases h with ⟨_, _, _, hB⟩ | ⟨_, _, hB, _⟩ | ⟨_, _, hB, _⟩ | ⟨_, _, hB, _⟩ | ⟨_, _, hB, _⟩ | ⟨_, _, _, hB, _⟩ | ⟨_, _, _, hB, _⟩
        · rw [hB, if_neg hE]
        all_goals exact hB
      rw [nb r1, nb r2]
  · by_cases hw : K = 1 ∧ E1 = 0
    · obtain ⟨q, hq, _, _, k1⟩ := x1 hw.1 hw.2
      obtain ⟨q', hq', _, _, k2⟩ := y1 hw.1 hw.2
      have : q = q' := by omega
      subst this
      exact ⟨_, k1, k2, a1, b1⟩
    · exact ⟨L, x2 hw, y2 hw, a1, b1⟩
/-- behind a Flush two caches of the same contents leave the same on their disks -/
theorem fr_end {n N : Nat} {C1 C2 C1' C2' : Ch} {L : List (List UInt8)} {m1 m2 : Int} (h1 : KpI C1 L n m1 N) (h2 : KpI C2 L n m2 N) (hm1 : m1 ≤ 30) (hm2 : m2 ≤ 30) (r1 : FlushR C1 C1') (r2 : FlushR C2 C2') :
    (C1'.D.S.length = n ∧ ∀ l ∈ C1'.D.S, l.length ≤ 1048576) ∧ (C2'.D.S.length = n ∧ ∀ l ∈ C2'.D.S, l.length ≤ 1048576) ∧ C1'.D.S = C2'.D.S := by
  have o1 : OpR n C1 6 0 [] false 0 [] C1' := .inr (.inr (.inr (.inr (.inr (.inl ⟨rfl, rfl, rfl, rfl, r1⟩)))))
  have o2 : OpR n C2 6 0 [] false 0 [] C2' := .inr (.inr (.inr (.inr (.inr (.inl ⟨rfl, rfl, rfl, rfl, r2⟩)))))
  obtain ⟨_, k1, _, x1⟩ := OpR.kp h1 hm1 o1
  obtain ⟨_, k2, _, x2⟩ := OpR.kp h2 hm2 o2
  have a1 := k1 (fun e => by cases e.1)
  have a2 := k2 (fun e => by cases e.1)
  obtain ⟨_, _, g1⟩ := x1 rfl
  obtain ⟨_, _, g2⟩ := x2 rfl
  have e1 := a1.live.D.len
  have e2 := a2.live.D.len
  refine ⟨⟨e1, fun l hl => by have := a1.live.D.fits.fit.sl l hl; omega⟩, ⟨e2, fun l hl => by have := a2.live.D.fits.fit.sl l hl; omega⟩, List.ext_getElem (e1.trans e2.symm) (fun q hq hq' => ?_)⟩
  have z1 := g1 q (by omega)
  have z2 := g2 q (by omega)
  rw [List.getD_eq_getElem?_getD, List.getElem?_eq_getElem hq] at z1
  rw [List.getD_eq_getElem?_getD, List.getElem?_eq_getElem hq'] at z2
  exact z1.trans z2.symm
theorem ncd {c cd x : Nat} (h1 : x ≠ c) (h2 : x ≠ cd) : ¬ CD c cd x := by
  rintro (h | h)
  · exact h1 h
  · exact h2 h
theorem nd9 {c cd x : Nat} (h1 : x ≠ c) (h2 : x ≠ cd) (h3 : x ≠ 9) : ¬ D9 c cd x := by
  rintro (h | h | h)
  · exact h1 h
  · exact h2 h
  · exact h3 h
end Go.Proofs.Ytchjfmgfoifbcaa
