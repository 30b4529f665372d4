/-
  What the things done make of a cache: the plain law of CacheKeeps. No condition: plain laws.
-/
import Derived.Test.YtchjfmgfoifbcaaChX
namespace Go.Proofs.Ytchjfmgfoifbcaa
open Go.RowKit
set_option linter.unusedVariables false
set_option linter.unusedSimpArgs false
set_option maxRecDepth 100000

theorem RoomR.most {C C' : Ch} {E : Int} (h : RoomR C E C') : C'.most = C.most := by
  rcases h with ⟨_, _, rfl⟩ | ⟨_, _, _, rfl⟩ | ⟨_, k, _, _, _, rfl⟩
  · rfl
  · rfl
  · rfl
theorem BringR.most {n : Nat} {C C' : Ch} {s E : Int} (h : BringR n C s E C') : C'.most = C.most := by
  rcases h with ⟨_, _, rfl⟩ | ⟨_, _, _, rfl⟩ | ⟨_, _, e, C1, hr, ⟨_, _, rfl⟩ | ⟨_, _, rfl⟩⟩
  · rfl
  · rfl
  · exact hr.most
  · exact hr.most
theorem WriteR.most {n : Nat} {C C' : Ch} {s E : Int} {l : List UInt8} (h : WriteR n C s l E C') : C'.most = C.most := by
  rcases h with ⟨_, _, rfl⟩ | ⟨_, _, _, rfl⟩ | ⟨_, _, _, _, rfl⟩ | ⟨_, _, _, e, C1, hr, ⟨_, _, rfl⟩ | ⟨_, _, rfl⟩⟩
  · rfl
  · rfl
  · rfl
  · exact hr.most
  · exact hr.most
theorem PinR.most {n : Nat} {C C' : Ch} {s E : Int} (h : PinR n C s E C') : C'.most = C.most := by
  obtain ⟨C1, hb, ⟨_, rfl⟩ | ⟨_, rfl⟩⟩ := h
  · exact hb.most
  · exact hb.most
theorem UnpinR.most {C C' : Ch} {s E : Int} (h : UnpinR C s E C') : C'.most = C.most := by
  rcases h with ⟨_, _, rfl⟩ | ⟨_, _, _, rfl⟩ | ⟨_, _, _, rfl⟩ <;> rfl
theorem EvictR.most {C C' : Ch} {k : Int} {is : Bool} (h : EvictR C k is C') : C'.most = C.most := by
  rcases h with ⟨_, _, rfl⟩ | ⟨_, x, _, ⟨_, _, rfl⟩ | ⟨_, _, rfl⟩⟩ <;> rfl
theorem flushL_most (l : List Int) : ∀ C : Ch, (flushL C l).most = C.most := by
  induction l with
  | nil => intro C; rfl
  | cons k l ih => intro C; exact (ih (cleanC (wrC C k) k)).trans rfl
theorem FlushR.most {C C' : Ch} (h : FlushR C C') : C'.most = C.most := by
  obtain ⟨l, _, rfl⟩ := h
  exact flushL_most l C
structure KpI (C : Ch) (L : List (List UInt8)) (n : Nat) (m : Int) (N : Nat) : Prop where
  live : LiveC C n N
  tru : TrueC C
  len : L.length = n
  cur : ∀ q, q < n → L.getD q [] = curC C q
  most : C.most = m
theorem getD_set (L : List (List UInt8)) (q j : Nat) (x : List UInt8) (hq : q < L.length) : (L.set q x).getD j [] = if j = q then x else L.getD j [] := by
  rw [List.getD_eq_getElem?_getD, List.getD_eq_getElem?_getD, List.getElem?_set]
  by_cases h : j = q
  · rw [if_pos h.symm, if_pos h, if_pos (h ▸ hq)]; rfl
  · rw [if_neg (fun e => h e.symm), if_neg h]
theorem kp_start {n : Nat} (hn : n ≤ 4096) {m : Int} (hm : 1 ≤ m ∧ m ≤ 1024) : KpI (newC (newD n) m) (List.replicate n (fullB [])) n m 0 := by
  obtain ⟨h1, h2⟩ := LiveD.start hn
  obtain ⟨h3, h4, h5⟩ := LiveC.start h1 hm
  refine ⟨h3, h4, List.length_replicate .., fun q hq => ?_, rfl⟩
  show _ = curC (newC (newD n) m) q
  rw [show curC (newC (newD n) m) q = pickD (newD n) q from h5 q, h2 q hq, List.getD_eq_getElem?_getD, List.getElem?_replicate, if_pos hq]
  rfl
theorem OpR.kp {n N : Nat} {C C' : Ch} {L : List (List UInt8)} {m K s E : Int} {l : List UInt8} {is : Bool} {B : List UInt8} (h : KpI C L n m N) (hm : m ≤ 30) (hr : OpR n C K s l is E B C') :
    (K = 1 → E = 0 → ∃ q : Nat, s = q ∧ q < n ∧ l.length ≤ 256 ∧ KpI C' (L.set q (fullB l)) n m (N + 70)) ∧ (¬ (K = 1 ∧ E = 0) → KpI C' L n m (N + 70)) ∧ (K = 0 → E = 0 → ∃ q : Nat, s = q ∧ q < n ∧ B = L.getD q []) ∧ (K = 6 → E = 0 ∧ C'.ks.countP (dirtyB C') = 0 ∧ ∀ q, q < n → C'.D.S.getD q [] = L.getD q []) := by
  rcases hr with ⟨rfl, rfl, hb, hB⟩ | ⟨rfl, rfl, rfl, hw⟩ | ⟨rfl, rfl, rfl, hp⟩ | ⟨rfl, rfl, rfl, hu⟩ | ⟨rfl, rfl, rfl, he⟩ | ⟨rfl, rfl, rfl, rfl, hf⟩ | ⟨hne, rfl, rfl, rfl, rfl⟩
  · obtain ⟨g1, _, g3, g4, _⟩ := hb.live h.live
    obtain ⟨t1, t2⟩ := g4 h.tru
    have hk : KpI C' L n m (N + 70) := ⟨g1.le (by omega), t1, h.len, fun q hq => by rw [t2 q hq]; exact h.cur q hq, hb.most.trans h.most⟩
    refine ⟨(fun e => by cases e), fun _ => hk, fun _ hE => ?_, (fun e => by cases e)⟩
    obtain ⟨h1, h2⟩ := g3 hE
    obtain ⟨q, rfl, hq⟩ := mayE_yes h1
    refine ⟨q, rfl, hq, ?_⟩
    rw [hB, if_pos hE, hk.cur q hq]
    unfold curC
    rw [if_pos h2]
  · obtain ⟨g1, _, g3, _, _, g6⟩ := hw.live h.live
    obtain ⟨t1, t2⟩ := g6 h.tru
    have hmost := hw.most.trans h.most
    refine ⟨fun _ hE => ?_, fun hne => ⟨g1.le (by omega), t1, h.len, fun q hq => ?_, hmost⟩, (fun e => by cases e), (fun e => by cases e)⟩
    · obtain ⟨h1, h2⟩ := g3 hE
      obtain ⟨q, rfl, hq⟩ := mayE_yes h1
      refine ⟨q, rfl, hq, h2, g1.le (by omega), t1, by rw [List.length_set]; exact h.len, fun j hj => ?_, hmost⟩
      rw [t2 j hj, getD_set L q j _ (by rw [h.len]; exact hq)]
      by_cases hjq : j = q
      · rw [if_pos hjq, if_pos ⟨hE, by omega⟩]
      · rw [if_neg hjq, if_neg (fun e => hjq (by have := e.2; omega))]
        exact h.cur j hj
    · rw [t2 q hq, if_neg (fun e => hne ⟨rfl, e.1⟩)]
      exact h.cur q hq
  · obtain ⟨g1, g4⟩ := hp.live h.live
    obtain ⟨t1, t2⟩ := g4 h.tru
    exact ⟨(fun e => by cases e), fun _ => ⟨g1.le (by omega), t1, h.len, fun q hq => by rw [t2 q hq]; exact h.cur q hq, hp.most.trans h.most⟩, (fun e => by cases e), (fun e => by cases e)⟩
  · obtain ⟨g1, g4⟩ := hu.live h.live
    obtain ⟨t1, t2⟩ := g4 h.tru
    exact ⟨(fun e => by cases e), fun _ => ⟨g1.le (by omega), t1, h.len, fun q hq => by rw [t2 q hq]; exact h.cur q hq, hu.most.trans h.most⟩, (fun e => by cases e), (fun e => by cases e)⟩
  · obtain ⟨g1, g4⟩ := he.live h.live
    obtain ⟨t1, t2⟩ := g4 h.tru
    exact ⟨(fun e => by cases e), fun _ => ⟨g1.le (by omega), t1, h.len, fun q hq => by rw [t2 q hq]; exact h.cur q hq, he.most.trans h.most⟩, (fun e => by cases e), (fun e => by cases e)⟩
  · obtain ⟨g1, _, g3, _, g5⟩ := hf.live h.live
    obtain ⟨t1, t2, t3⟩ := g5 h.tru
    have hfew := h.live.few
    have hmo := h.most
    refine ⟨(fun e => by cases e), fun _ => ⟨g1.le (by omega), t1, h.len, fun q hq => by rw [t2 q hq]; exact h.cur q hq, hf.most.trans h.most⟩, (fun e => by cases e), fun _ => ⟨rfl, List.countP_eq_zero.2 (fun k hk => ?_), fun q hq => by rw [t3 q hq]; exact (h.cur q hq).symm⟩⟩
    show ¬ (C'.F k).dirty = true
    rw [g3 k hk]
    exact Bool.false_ne_true
  · exact ⟨fun e => absurd e hne.2.1, fun _ => ⟨h.live.le (by omega), h.tru, h.len, h.cur, h.most⟩, fun e => absurd e hne.1, fun e => absurd e hne.2.2.2.2.2⟩
end Go.Proofs.Ytchjfmgfoifbcaa
