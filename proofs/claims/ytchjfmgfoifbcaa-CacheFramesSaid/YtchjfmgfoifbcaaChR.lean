/-
  A cache's steps by what the cache is; the plain laws of CacheDrops and CachePins. Conditions: the cache reads as one, its disk's power stays.
-/
import Derived.Test.YtchjfmgfoifbcaaChH
namespace Go.Proofs.Ytchjfmgfoifbcaa
open Go.RowKit
set_option linter.unusedVariables false
set_option linter.unusedSimpArgs false
set_option maxRecDepth 100000
set_option linter.unusedSectionVars false

section
variable (c cd : Nat) (col : Nat → Nat) (b bd : Nat) (C : Ch) (n N : Nat) (w : World) (h : CkAt c cd col w b bd C) (HL : LiveC C n N) (hN : N < 900000000) (hcc : ¬ c = cd) (hn : n ≤ 4096)
include h HL hN hcc hn
theorem cwr_q (s : Int) (aB : Option Addr) (nB cB : Nat) (l : List UInt8) (hs : Sl w 1 (.slice aB nB cB) nB (bvs l)) (hB : l ≠ [] → ∀ x, (Value.slice aB nB cB).ownBlock = some x → ¬ CD c cd (col x)) :
    Calls Try.prog 18 #[.pointer (some ⟨b, 0, none⟩), .int .i64 s, .slice aB nB cB] w (StepP (WriteR n C s l) c cd col w b bd) := by
  obtain ⟨bm, at_, h1, h2⟩ := h
  exact cwr_p c cd col b bd bm C at_ n N s aB nB cB l w h1 h2 HL (by omega) hcc hn hs hB
theorem cread_q (s : Int) : Calls Try.prog 23 #[.pointer (some ⟨b, 0, none⟩), .int .i64 s] w (ReadP c cd col w b bd C n s) := by
  obtain ⟨bm, at_, h1, h2⟩ := h
  exact cread_p c cd col b bd bm C at_ n N s w h1 h2 HL (by omega) hcc hn
theorem pin_q (s : Int) : Calls Try.prog 24 #[.pointer (some ⟨b, 0, none⟩), .int .i64 s] w (StepP (PinR n C s) c cd col w b bd) := by
  obtain ⟨bm, at_, h1, h2⟩ := h
  exact pin_p c cd col b bd bm C at_ n N s w h1 h2 HL (by omega) hcc hn
theorem unpin_q (s : Int) (hwf : (Lit.int .i64 s).wf = true) : Calls Try.prog 25 #[.pointer (some ⟨b, 0, none⟩), .int .i64 s] w (StepP (UnpinR C s) c cd col w b bd) := by
  obtain ⟨bm, at_, h1, h2⟩ := h
  exact unpin_p c cd col b bd bm C at_ n N s w h1 h2 HL (by omega) hcc hwf
theorem drop_q (s : Int) (hwf : (Lit.int .i64 s).wf = true) : Calls Try.prog 22 #[.pointer (some ⟨b, 0, none⟩), .int .i64 s] w (StepP (DropR C s) c cd col w b bd) := by
  obtain ⟨bm, at_, h1, h2⟩ := h
  exact drop_p c cd col b bd bm C at_ n N s w h1 h2 HL hcc hwf
theorem evict_q (k : Int) (hk : k ≤ 9223372036854775807) : Calls Try.prog 21 #[.pointer (some ⟨b, 0, none⟩), .int .i64 k] w (EvictP (EvictR C k) c cd col w b bd) := by
  obtain ⟨bm, at_, h1, h2⟩ := h
  exact evict_p c cd col b bd bm C at_ n N k w h1 h2 HL (by omega) hcc hk
theorem flush_q : Calls Try.prog 14 #[.pointer (some ⟨b, 0, none⟩)] w (FlushP c cd col w b bd C) := by
  obtain ⟨bm, at_, h1, h2⟩ := h
  exact flush_p c cd col b bd bm C at_ n N w h1 h2 HL (by omega) hcc
theorem held_q : Calls Try.prog 17 #[.pointer (some ⟨b, 0, none⟩)] w fun e w' => e = .returned (.tuple #[.int .i64 (C.ks.length : Nat), .int .i64 (C.ks.countP (dirtyB C) : Nat), .int .i64 (C.ks.countP (pinB C) : Nat)]) ∧ Below w.heap.size w w' := by
  obtain ⟨bm, at_, h1, h2⟩ := h
  exact held_p c col b bd bm C at_ w h1 (by have := HL.few; have := HL.mst; omega)
end
/-! ### CacheDrops -/
def drC : Ch := newC (newD 16) 3
theorem dr_0 : LiveC drC 16 0 ∧ TrueC drC := by
  obtain ⟨h1, _⟩ := LiveD.start (n := 16) (by decide)
  obtain ⟨h2, h3, _⟩ := LiveC.start h1 (m := 3) (by decide)
  exact ⟨h2, h3⟩
theorem dr_1 {E : Int} {C1 : Ch} {l : List UInt8} (h : WriteR 16 drC 5 l E C1) (hl : l.length ≤ 256) : E = 0 ∧ LiveC C1 16 3 ∧ TrueC C1 ∧ C1.ks = [5] ∧ C1.most = 3 ∧ (C1.F 5).pins = 0 ∧ curC C1 5 = fullB l ∧ pickD C1.D 5 = fullB [] := by
  obtain ⟨rfl, h2⟩ := h.fresh (by decide) hl (by decide) (by decide)
  obtain ⟨g1, _, _, _, _, g6⟩ := h.live dr_0.1
  obtain ⟨g7, g8⟩ := g6 dr_0.2
  have g9 := g8 5 (by decide)
  rw [if_pos ⟨rfl, rfl⟩] at g9
  refine ⟨rfl, g1, g7, by rw [h2]; rfl, by rw [h2]; rfl, ?_, g9, ?_⟩
  · rw [h2, (setC_eq _ _ _ _).1, (useC_eq _ _ _).2.2, addC_eq]; rfl
  · rw [h2]; exact (LiveD.start (n := 16) (by decide)).2 5 (by decide)
theorem dr_2 {is : Bool} {C1 C2 : Ch} {l : List UInt8} (h : LiveC C1 16 3) (ht : TrueC C1) (hk : C1.ks = [5]) (hm : C1.most = 3) (hp : (C1.F 5).pins = 0) (hc : curC C1 5 = fullB l) (he : EvictR C1 0 is C2) :
    is = true ∧ LiveC C2 16 5 ∧ C2.ks = [] ∧ C2.most = 3 ∧ pickD C2.D 5 = fullB l := by
  obtain ⟨g1, g2⟩ := he.live h
  obtain ⟨_, g3⟩ := g2 ht
  rcases he with ⟨h1 | h1, _, _⟩ | ⟨_, x, hx, ⟨h1, _, _⟩ | ⟨_, rfl, rfl⟩⟩
  · rw [hk] at h1; cases h1
  · cases h1
  · rw [hk] at hx
    rw [List.mem_singleton.1 hx] at h1
    exact absurd hp h1
  · have hx5 : x = 5 := by rw [hk] at hx; exact List.mem_singleton.1 hx
    subst hx5
    have hks : (outC C1 5).ks = [] := by show C1.ks.erase 5 = []; rw [hk]; rfl
    refine ⟨rfl, g1, hks, hm, ?_⟩
    have := g3 5 (by decide)
    unfold curC at this
    rw [hks, if_neg (by simp)] at this
    rw [this]
    exact hc
theorem dr_3 {E : Int} {X C2 : Ch} {l : List UInt8} {N : Nat} (hX : LiveC X 16 N) (hk : X.ks = [5] ∨ X.ks = []) (hm : X.most = 3) (hp : X.ks = [5] → (X.F 5).pins = 0) (h : WriteR 16 X 5 l E C2) (hl : l.length ≤ 256) :
    E = 0 ∧ LiveC C2 16 (N + 3) ∧ C2.ks = [5] ∧ (C2.F 5).pins = 0 ∧ C2.most = 3 ∧ C2.D = X.D := by
  obtain ⟨g1, _⟩ := h.live hX
  rcases hk with hk | hk
  · have h' := h
    rcases h' with ⟨h1, _, _⟩ | ⟨_, h1, _⟩ | ⟨_, _, _, h1, h2⟩ | ⟨_, _, h1, _⟩
    · exact absurd h1 (by decide)
    · omega
    · refine ⟨h1, g1, by rw [h2]; exact hk, ?_, by rw [h2]; exact hm, by rw [h2]; rfl⟩
      rw [h2, (setC_eq _ _ _ _).1, (useC_eq _ _ _).2.2]
      exact hp hk
    · exact absurd (by rw [hk]; simp) h1
  · obtain ⟨h1, h2⟩ := h.fresh (by decide) hl (by rw [hk]; simp) (by rw [hk, hm]; decide)
    refine ⟨h1, g1, by rw [h2]; show putK X.ks 5 = _; rw [hk]; rfl, ?_, by rw [h2]; exact hm, by rw [h2]; rfl⟩
    rw [h2, (setC_eq _ _ _ _).1, (useC_eq _ _ _).2.2, addC_eq]; rfl
theorem dr_4 {E : Int} {C2 C3 : Ch} {N : Nat} (h : LiveC C2 16 N) (hk : C2.ks = [5]) (hp : (C2.F 5).pins = 0) (hm : C2.most = 3) (hd : DropR C2 5 E C3) : E = 0 ∧ LiveC C3 16 N ∧ C3.ks = [] ∧ C3.D = C2.D ∧ C3.most = 3 := by
  have g := hd.live h
  rcases hd with ⟨h1, _, _⟩ | ⟨_, h1, _⟩ | ⟨_, _, h1, rfl⟩
  · exact absurd (by rw [hk]; simp) h1
  · exact absurd hp h1
  · exact ⟨h1, g, by show C2.ks.erase 5 = []; rw [hk]; rfl, rfl, hm⟩
theorem dr_5 {E : Int} {C3 C4 : Ch} {N : Nat} (h : LiveC C3 16 N) (hk : C3.ks = []) (hm : C3.most = 3) (hb : BringR 16 C3 5 E C4) : E = 0 ∧ LiveC C4 16 (N + 3) ∧ C4.ks = [5] ∧ (C4.F 5).b = pickD C3.D 5 := by
  have hE := hb.zero (by decide) (.inr (.inl (by rw [hk, hm]; decide)))
  obtain ⟨g1, _⟩ := hb.live h
  refine ⟨hE, g1, ?_⟩
  rcases hb with ⟨h1, _, _⟩ | ⟨_, h1, _⟩ | ⟨_, _, e, C1, hr, ⟨_, h1, _⟩ | ⟨_, _, h2⟩⟩
  · exact absurd h1 (by decide)
  · rw [hk] at h1; simp at h1
  · rw [h1] at hE; cases hE
  · have hC1 : C1 = C3 := by
      rcases hr with ⟨_, _, h3⟩ | ⟨h3, _⟩ | ⟨h3, _⟩
      · exact h3
      · exact absurd (by rw [hk, hm]; decide) h3
      · exact absurd (by rw [hk, hm]; decide) h3
    subst hC1
    rw [h2]
    refine ⟨by show putK C1.ks 5 = _; rw [hk]; rfl, ?_⟩
    rw [(useC_eq _ _ _).1, addC_eq, if_pos rfl]
    rfl
theorem dr_6 {E : Int} {C4 C5 : Ch} (hk : C4.ks = [5]) (hd : DropR C4 6 E C5) : E = 7 := by
  rcases hd with ⟨_, h, _⟩ | ⟨h1, _⟩ | ⟨h1, _⟩
  · exact h
  · rw [hk] at h1; simp at h1
  · rw [hk] at h1; simp at h1
end Go.Proofs.Ytchjfmgfoifbcaa
