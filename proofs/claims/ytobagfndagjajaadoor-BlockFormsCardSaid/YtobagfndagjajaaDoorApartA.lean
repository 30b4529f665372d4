/-
  Answers that are watched, each in memory of its own: plain laws, and 'stand'. Conditions: eight answers at most, of 2^20 bytes at most.
-/
import Derived.Test.YtobagfndagjajaaDoorSep
import Derived.Test.YtobagfndagjajaaDoorCanon
import Derived.Test.YtobagfndagjajaaDoorRef00
namespace Go.Proofs.YtobagfndagjajaaDoor
open Go.RowKit
set_option linter.unusedVariables false
set_option linter.unusedSimpArgs false

structure Rc where
  b : Value
  more : Value
  n : Nat
  l : List UInt8
  s : List UInt8
  t : List UInt8
def Rc.blk (r : Rc) (g : Nat) : Prop := r.b.ownBlock = some g ∨ r.more.ownBlock = some g
def Hd (w : World) (B : Nat) (r : Rc) : Prop :=
  r.l.length = r.n ∧ ((∃ g off c, r.b = .slice (some ⟨g, off, none⟩) r.n c ∧ r.more = .slice (some ⟨g, off, none⟩) (r.n + r.t.length) c ∧ Own w B 1 r.more (r.n + r.t.length) (bvs (r.l ++ r.t))) ∨
   (Own w B 1 r.b r.n (bvs r.l) ∧ Own w B 1 r.more (r.n + r.t.length) (bvs (r.l ++ r.t)) ∧ ∀ g, r.b.ownBlock = some g → r.more.ownBlock ≠ some g))
theorem Hd.more {w : World} {B : Nat} {r : Rc} (h : Hd w B r) : Own w B 1 r.more (r.n + r.t.length) (bvs (r.l ++ r.t)) := by
  rcases h.2 with ⟨g, off, c, h1, h2, h3⟩ | ⟨h1, h2, h3⟩
  · exact h3
  · exact h2
theorem Hd.own {w : World} {B : Nat} {r : Rc} (h : Hd w B r) : Own w B 1 r.b r.n (bvs r.l) := by
  have hl := h.1
  rcases h.2 with ⟨g, off, c, h1, h2, h3⟩ | ⟨h1, h2, h3⟩
  · rw [h1]
    rw [h2] at h3
    have h4 := h3.front (m := r.n) (by omega)
    rw [Nat.mul_one, bvs_take, List.take_append_of_le_length (by omega), List.take_of_length_le (by omega)] at h4
    exact h4
  · exact h1
theorem Hd.lives {w : World} {B : Nat} {r : Rc} (h : Hd w B r) : ∀ g, r.blk g → B ≤ g ∧ g < w.heap.size := by
  intro g hg
  rcases hg with hg | hg
  · exact ⟨h.own.lt g hg, h.own.lives g hg⟩
  · exact ⟨h.more.lt g hg, h.more.lives g hg⟩
theorem Hd.mods {w w' : World} {P : Nat → Prop} {B : Nat} {r : Rc} (h : Hd w B r) (hm : Mods P w w') (hn : ∀ g, r.blk g → ¬ P g) : Hd w' B r := by
  refine ⟨h.1, ?_⟩
  rcases h.2 with ⟨g, off, c, h1, h2, h3⟩ | ⟨h1, h2, h3⟩
  · exact .inl ⟨g, off, c, h1, h2, h3.mods hm fun g hg => hn g (.inr hg)⟩
  · exact .inr ⟨h1.mods hm fun g hg => hn g (.inl hg), h2.mods hm fun g hg => hn g (.inr hg), h3⟩
theorem Hd.start {w : World} {B n : Nat} {b : Value} {l : List UInt8} (h : Own w B 1 b n (bvs l)) : Hd w B ⟨b, b, n, l, l, []⟩ := by
  refine ⟨by have := h.1; simpa [bvs] using this, ?_⟩
  rcases h.2 with ⟨h1, h2⟩ | ⟨g, off, c, h1, h2⟩
  · right
    refine ⟨h, by simpa using h, fun g hg => ?_⟩
    subst h1
    simp [Value.ownBlock] at hg
  · left
    exact ⟨g, off, c, h1, by simpa using h1, by simpa using h⟩
/-- a byte more is put -/
theorem Hd.put {w w' : World} {B : Nat} {r : Rc} {v' : Value} {x : UInt8} (h : Hd w B r) (ho : Own w' B 1 v' (r.n + r.t.length + 1) (bvs (r.l ++ r.t) ++ bvs [x])) (hg : w.grownBy w' r.more.ownBlock)
    (hc : (∃ g off cap, r.more = .slice (some ⟨g, off, none⟩) (r.n + r.t.length) cap ∧ v' = .slice (some ⟨g, off, none⟩) (r.n + r.t.length + 1) cap) ∨ ((∀ g, v'.ownBlock = some g → w.heap.size ≤ g) ∧ w.grownBy w' none)) :
    Hd w' B ⟨r.b, v', r.n, r.l, r.s, r.t ++ [x]⟩ ∧ (∀ g, Rc.blk ⟨r.b, v', r.n, r.l, r.s, r.t ++ [x]⟩ g → r.blk g ∨ w.heap.size ≤ g) := by
  have hb := h.own
  rw [← bvs_append, List.append_assoc] at ho
  have ho' : Own w' B 1 v' (r.n + (r.t ++ [x]).length) (bvs (r.l ++ (r.t ++ [x]))) := by rw [List.length_append, List.length_singleton, ← Nat.add_assoc]; exact ho
  have hlen : (r.t ++ [x]).length = r.t.length + 1 := by simp
  rcases hc with ⟨g, off, cap, h1, h2⟩ | ⟨h1, h2⟩
  · refine ⟨⟨h.1, ?_⟩, ?_⟩
    · rcases h.2 with ⟨g', off', c', k1, k2, k3⟩ | ⟨k1, k2, k3⟩
      · left
        rw [h1] at k2
        cases k2
        exact ⟨g, off, cap, k1, by rw [h2]; simp only [hlen]; rw [Nat.add_assoc], ho'⟩
      · right
        refine ⟨k1.mods (Mods.grown hg) fun g'' hg'' => k3 g'' hg'', ho', fun g'' hg'' => ?_⟩
        have := k3 g'' hg''
        rw [h1] at this
        show v'.ownBlock ≠ _
        rw [h2]
        simpa [Value.ownBlock] using this
    · intro g' hg'
      left
      rcases hg' with hg' | hg'
      · exact .inl hg'
      · right
        rw [h1]
        rw [show Rc.more ⟨r.b, v', r.n, r.l, r.s, r.t ++ [x]⟩ = v' from rfl, h2] at hg'
        simpa [Value.ownBlock] using hg'
  · refine ⟨⟨h.1, .inr ⟨hb.below (below_of_grown0 h2), ho', fun g hg' he => ?_⟩⟩, fun g hg' => ?_⟩
    · have := hb.lives g hg'
      have := h1 g he
      omega
    · rcases hg' with hg' | hg'
      · exact .inl (.inl hg')
      · exact .inr (h1 g hg')
/-- a byte is turned, here and there -/
theorem Hd.flip {w : World} {B k : Nat} {r : Rc} (h : Hd w B r) (hk : k < r.n) (x : UInt8) :
    ∃ g off c g2 off2 c2, r.b = .slice (some ⟨g, off, none⟩) r.n c ∧ r.more = .slice (some ⟨g2, off2, none⟩) (r.n + r.t.length) c2 ∧ r.n ≤ c ∧ r.n + r.t.length ≤ c2 ∧ c ≤ 9223372036854775807 ∧ c2 ≤ 9223372036854775807 ∧
      w.cell? ⟨g, off + k, none⟩ = some (.int .u8 ((r.l.getD k 0).toNat : Int)) ∧ w.frozen? ⟨g, off + k, none⟩ = false ∧
      (w.setCell ⟨g, off + k, none⟩ (.int .u8 (x.toNat : Int))).cell? ⟨g2, off2 + k, none⟩ ≠ none ∧ w.frozen? ⟨g2, off2 + k, none⟩ = false ∧
      Hd ((w.setCell ⟨g, off + k, none⟩ (.int .u8 (x.toNat : Int))).setCell ⟨g2, off2 + k, none⟩ (.int .u8 (x.toNat : Int))) B ⟨r.b, r.more, r.n, r.l.set k x, r.s, r.t⟩ ∧
      Mods r.blk w ((w.setCell ⟨g, off + k, none⟩ (.int .u8 (x.toNat : Int))).setCell ⟨g2, off2 + k, none⟩ (.int .u8 (x.toNat : Int))) := by
  have hb := h.own
  have hm := h.more
  have hl := h.1
  obtain ⟨g, off, c, e1, g1, g2, g3, g4, g5⟩ := hb.open (by omega) (by decide)
  obtain ⟨m, off2, c2, e2, m1, m2, m3, m4, m5⟩ := hm.open (by omega) (by decide)
  rw [e1] at hb
  rw [e2] at hm
  have k1 := hb.get k (by rw [bvs_length]; omega)
  rw [bvs_get _ _ (by omega)] at k1
  have k2 := hb.free k (by rw [bvs_length]; omega)
  have k3 := hm.free k (by rw [bvs_length, List.length_append]; omega)
  have k4 := hm.get k (by rw [bvs_length, List.length_append]; omega)
  have hMods : Mods r.blk w ((w.setCell ⟨g, off + k, none⟩ (.int .u8 (x.toNat : Int))).setCell ⟨m, off2 + k, none⟩ (.int .u8 (x.toNat : Int))) :=
    ((Mods.set w g (off + k) _).mono (fun q hq => by left; rw [e1, hq]; rfl)).trans ((Mods.set _ m (off2 + k) _).mono (fun q hq => by right; rw [e2, hq]; rfl))
  refine ⟨g, off, c, m, off2, c2, e1, e2, g3, m3, g4, m4, k1, k2, ?_, k3, ?_, hMods⟩
  · by_cases hq : m = g ∧ off2 + k = off + k
    · rw [hq.1, hq.2, cell_setCell_same k1]; simp
    · rw [cell_setCell_ne (by simpa using hq), k4, List.getElem?_eq_getElem (by rw [bvs_length, List.length_append]; omega)]; simp
  · refine ⟨by rw [List.length_set]; exact hl, ?_⟩
    rcases h.2 with ⟨g', off', c', q1, q2, q3⟩ | ⟨q1, q2, q3⟩
    · left
      rw [e1] at q1
      cases q1
      rw [e2] at q2
      cases q2
      refine ⟨g, off, c, e1, e2, ?_⟩
      show Own _ B 1 r.more _ _
      rw [e2]
      have s1 := (hm.set k (.int .u8 (x.toNat : Int))).set k (.int .u8 (x.toNat : Int))
      rw [List.set_set, bvs_set, List.set_append_left _ _ (by omega)] at s1
      exact s1
    · right
      have hne : g ≠ m := by
        intro e
        refine q3 g (by rw [e1]; rfl) ?_
        rw [e2, e]; rfl
      refine ⟨?_, ?_, q3⟩
      · show Own _ B 1 r.b _ _
        rw [e1]
        have s1 := (hb.set k (.int .u8 (x.toNat : Int))).other (b := m) (o := off2 + k) hne (.int .u8 (x.toNat : Int))
        rw [bvs_set] at s1
        exact s1
      · show Own _ B 1 r.more _ _
        rw [e2]
        have s1 := (hm.other (b := g) (o := off + k) (Ne.symm hne) (.int .u8 (x.toNat : Int))).set k (.int .u8 (x.toNat : Int))
        rw [bvs_set, List.set_append_left _ _ (by omega)] at s1
        exact s1

/-! ### all of them -/
structure Recs (w : World) (B : Nat) (X : Nat → Prop) (R : List Rc) : Prop where
  hd : ∀ (i : Nat) (r : Rc), R[i]? = some r → Hd w B r
  apart : ∀ (i j : Nat) (r s : Rc) (g : Nat), i ≠ j → R[i]? = some r → R[j]? = some s → r.blk g → ¬ s.blk g
  off : ∀ (i : Nat) (r : Rc) (g : Nat), R[i]? = some r → r.blk g → ¬ X g
theorem Recs.mods {w w' : World} {P X : Nat → Prop} {B : Nat} {R : List Rc} (h : Recs w B X R) (hm : Mods P w w') (hP : ∀ g, P g → g < w.heap.size → X g) : Recs w' B X R :=
  ⟨fun i r hi => (h.hd i r hi).mods hm fun g hg hp => h.off i r g hi hg (hP g hp ((h.hd i r hi).lives g hg).2), h.apart, h.off⟩
theorem Recs.below {w w' : World} {X : Nat → Prop} {B : Nat} {R : List Rc} (h : Recs w B X R) (hm : Below w.heap.size w w') : Recs w' B X R :=
  h.mods (Mods.below hm) fun g hg hl => by omega
theorem Recs.reX {w : World} {X Y : Nat → Prop} {B : Nat} {R : List Rc} (h : Recs w B X R) (hY : ∀ g, Y g → X g ∨ w.heap.size ≤ g) : Recs w B Y R :=
  ⟨h.hd, h.apart, fun i r g hi hg hy => by
    rcases hY g hy with h1 | h1
    · exact h.off i r g hi hg h1
    · have := ((h.hd i r hi).lives g hg).2; omega⟩
theorem Recs.touch {w w' : World} {X P : Nat → Prop} {B i : Nat} {R : List Rc} {r r' : Rc} (h : Recs w B X R) (hi : R[i]? = some r) (hm : Mods P w w') (hP : ∀ g, P g → r.blk g) (hr : Hd w' B r') (hb : ∀ g, r'.blk g → r.blk g ∨ w.heap.size ≤ g) (hX : ∀ g, X g → g < w.heap.size) : Recs w' B X (R.set i r') := by
  have hlt := (List.getElem?_eq_some_iff.1 hi).1
  have key : ∀ (j : Nat) (s : Rc), (R.set i r')[j]? = some s → (j = i ∧ s = r') ∨ (j ≠ i ∧ R[j]? = some s) := by
    intro j s hs
    rw [List.getElem?_set] at hs
    split at hs
    · rename_i e
      left
      first | exact ⟨e.symm, (Option.some.inj hs).symm⟩ | (rw [if_pos (e ▸ hlt)] at hs; exact ⟨e.symm, (Option.some.inj hs).symm⟩)
    · rename_i e
      exact .inr ⟨fun h => e h.symm, hs⟩
  have old : ∀ (j : Nat) (s : Rc) (g : Nat), j ≠ i → R[j]? = some s → r'.blk g → ¬ s.blk g := by
    intro j s g hj hs hg hg2
    rcases hb g hg with h1 | h1
    · exact h.apart i j r s g (Ne.symm hj) hi hs h1 hg2
    · have := ((h.hd j s hs).lives g hg2).2; omega
  refine ⟨fun j s hs => ?_, fun j k s t g hjk hs ht hg hg2 => ?_, fun j s g hs hg hx => ?_⟩
  · rcases key j s hs with ⟨_, rfl⟩ | ⟨hj, hs⟩
    · exact hr
    · exact (h.hd j s hs).mods hm fun g hg hp => h.apart i j r s g (Ne.symm hj) hi hs (hP g hp) hg
  · rcases key j s hs with ⟨rfl, rfl⟩ | ⟨hj, hs'⟩
    · rcases key k t ht with ⟨rfl, rfl⟩ | ⟨hk, ht⟩
      · exact hjk rfl
      · exact old k t g hk ht hg hg2
    · rcases key k t ht with ⟨hk, ht2⟩ | ⟨hk, ht2⟩
      · rw [ht2] at hg2
        exact old j s g hj hs' hg2 hg
      · exact h.apart j k s t g hjk hs' ht2 hg hg2
  · rcases key j s hs with ⟨rfl, rfl⟩ | ⟨hj, hs⟩
    · rcases hb g hg with h1 | h1
      · exact h.off _ r g hi h1 hx
      · have := hX g hx; omega
    · exact h.off j s g hs hg hx

/-! ### the cells of the list of them -/
def hcells (R : List Rc) : List Value := R.flatMap fun r => [r.b, .string (str r.s), r.more]
theorem hcells_len (R : List Rc) : (hcells R).length = R.length * 3 := by
  induction R with
  | nil => rfl
  | cons r R ih =>
    unfold hcells at ih ⊢
    rw [List.flatMap_cons, List.length_append, List.length_cons, ih]
    simp; omega
theorem hcells_get (R : List Rc) (i : Nat) (r : Rc) (h : R[i]? = some r) : (hcells R)[i * 3]? = some r.b ∧ (hcells R)[i * 3 + 1]? = some (.string (str r.s)) ∧ (hcells R)[i * 3 + 2]? = some r.more := by
  induction R generalizing i with
  | nil => simp at h
  | cons q R ih =>
    rw [hcells, List.flatMap_cons]
    cases i with
    | zero =>
      simp at h; subst h
      exact ⟨rfl, rfl, rfl⟩
    | succ i =>
      obtain ⟨h1, h2, h3⟩ := ih i (by simpa using h)
      unfold hcells at h1 h2 h3
      refine ⟨?_, ?_, ?_⟩
      · rw [List.getElem?_append_right (by simp; omega)]; simpa [show (i + 1) * 3 - 3 = i * 3 by omega] using h1
      · rw [List.getElem?_append_right (by simp; omega)]; simpa [show (i + 1) * 3 + 1 - 3 = i * 3 + 1 by omega] using h2
      · rw [List.getElem?_append_right (by simp; omega)]; simpa [show (i + 1) * 3 + 2 - 3 = i * 3 + 2 by omega] using h3
theorem hcells_says (R : List Rc) (i : Nat) (r : Rc) (h : R[i]? = some r) (s : List UInt8) : (hcells R).set (i * 3 + 1) (.string (str s)) = hcells (R.set i { r with s := s }) := by
  induction R generalizing i with
  | nil => simp at h
  | cons q R ih =>
    rw [hcells, List.flatMap_cons]
    cases i with
    | zero =>
      simp at h; subst h
      rfl
    | succ i =>
      have h1 := ih i (by simpa using h)
      unfold hcells at h1
      rw [List.set_append_right _ _ (by simp; omega), List.set_cons_succ, hcells, List.flatMap_cons]
      congr 1
      simpa [show (i + 1) * 3 + 1 - 3 = i * 3 + 1 by omega] using h1
/-- what is turned in the memory of one shows in no cell of the list -/
theorem hcells_turn (R : List Rc) (i : Nat) (r : Rc) (h : R[i]? = some r) (l : List UInt8) : hcells (R.set i { r with l := l }) = hcells R := by
  induction R generalizing i with
  | nil => simp at h
  | cons q R ih =>
    cases i with
    | zero =>
      simp at h; subst h
      rfl
    | succ i =>
      have h1 := ih i (by simpa using h)
      unfold hcells at h1 ⊢
      rw [List.set_cons_succ, List.flatMap_cons, List.flatMap_cons, h1]
/-- what all of them say, and bear behind them -/
def Told (R : List Rc) : Prop := ∀ (i : Nat) (r : Rc), R[i]? = some r → r.s = r.l ∧ r.t = List.replicate 10 (UInt8.ofNat i) ∧ r.n ≤ 1048576
theorem hold_at {w : World} {a : Option Addr} {k c : Nat} {R : List Rc} (hl : Sl w 3 (.slice a k c) k (hcells R)) (i : Nat) (hi : i < k) :
    ∃ b off r, a = some ⟨b, off, none⟩ ∧ R[i]? = some r ∧ w.cell? ⟨b, off + i * 3, none⟩ = some r.b ∧ w.cell? ⟨b, off + i * 3 + 1, none⟩ = some (.string (str r.s)) ∧ w.cell? ⟨b, off + i * 3 + 2, none⟩ = some r.more := by
  have hlen := hl.1
  rw [hcells_len] at hlen
  have hi2 : i < R.length := by omega
  obtain ⟨b, off, ha, hlt, hc⟩ := hl.addr (by omega)
  obtain ⟨h1, h2, h3⟩ := hcells_get R i R[i] (List.getElem?_eq_getElem hi2)
  exact ⟨b, off, R[i], ha, List.getElem?_eq_getElem hi2, hc _ _ h1, by rw [Nat.add_assoc]; exact hc _ _ h2, by rw [Nat.add_assoc]; exact hc _ _ h3⟩
end Go.Proofs.YtobagfndagjajaaDoor
