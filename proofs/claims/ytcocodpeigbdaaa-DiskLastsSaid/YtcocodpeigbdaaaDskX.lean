/-
  The plain law of DiskLasts: what lasts behind a loss of power. No condition: plain laws.
-/
import Derived.Test.YtcocodpeigbdaaaDskL2
namespace Go.Proofs.Ytcocodpeigbdaaa
open Go.RowKit
set_option linter.unusedVariables false
set_option linter.unusedSimpArgs false

def IsW (L : List Stp) (j s : Nat) (b : List UInt8) : Prop := ∃ (l : List UInt8) (keep : List Int), L[j]? = some ((1 : Int), (s : Int), l, keep) ∧ l.length ≤ 256 ∧ b = fullB l
def kindAt (L : List Stp) (i : Nat) : Int := (L.getD i (9, 0, [], [])).1
def lastB (L : List Stp) : Nat → Nat
  | 0 => 0
  | i + 1 => if kindAt L i = 2 then i else lastB L i
theorem lastB_le (L : List Stp) : ∀ i, lastB L i ≤ i
  | 0 => Nat.le_refl _
  | i + 1 => by
    rw [lastB]
    split
    · omega
    · have := lastB_le L i; omega
theorem kindAt_eq {L : List Stp} {i : Nat} {K s : Int} {l : List UInt8} {keep : List Int} (h : L[i]? = some (K, s, l, keep)) : kindAt L i = K := by
  rw [kindAt, List.getD_eq_getElem?_getD, h]; rfl
theorem pick_full {S : List (List UInt8)} {P : Pend} {s : Nat} (hs : (S.getD s []).length = 256) (hp : ∀ p ∈ P, p.2.length = 256) : ∀ n, n ≤ P.length → (pickN S P s n).length = 256 := by
  intro n
  induction n with
  | zero => intro _; exact hs
  | succ n ih =>
    intro hn
    rw [pickN]
    split
    · exact hp _ (penAt_mem (by omega))
    · exact ih (by omega)
structure LsInv (L : List Stp) (D : Dk) (i : Nat) : Prop where
  live : D.dead = false
  arm : D.armed = 0
  len : D.S.length = 16
  fits : D.Fits (2 * i)
  full : ∀ s, s < 16 → (D.S.getD s []).length = 256
  pend : ∀ p ∈ D.P, ∃ j, lastB L i ≤ j ∧ j < i ∧ IsW L j p.1 p.2
theorem LsInv.form {L : List Stp} {D : Dk} {i : Nat} (h : LsInv L D i) : D = ⟨D.S, D.P, false, 0, D.steps⟩ := by
  obtain ⟨S, P, d, a, n⟩ := D
  have h1 := h.live
  have h2 := h.arm
  simp only at h1 h2
  subst h1 h2
  rfl
theorem LsInv.start (L : List Stp) : LsInv L wk0 0 := ⟨rfl, rfl, blankD_len 16, wk_f0, fun s hs => by
  have : wk0.S.getD s [] = List.replicate 256 0 := blankD_get hs
  rw [this]; exact List.length_replicate, fun p hp => (List.not_mem_nil hp).elim⟩
theorem LsInv.keep {L : List Stp} {D : Dk} {i : Nat} (h : LsInv L D i) (hk : ¬ kindAt L i = 2) : LsInv L D (i + 1) := ⟨h.live, h.arm, h.len, h.fits.le (by omega), h.full, fun p hp => by
  obtain ⟨j, h1, h2, h3⟩ := h.pend p hp
  exact ⟨j, by rw [lastB, if_neg hk]; exact h1, by omega, h3⟩⟩
theorem LsInv.write {L : List Stp} {D : Dk} {i : Nat} (h : LsInv L D i) {s : Int} {l : List UInt8} {keep : List Int} (hi : L[i]? = some ((1 : Int), s, l, keep)) : LsInv L (writeD D s l) (i + 1) := by
  have hk : ¬ kindAt L i = 2 := by rw [kindAt_eq hi]; decide
  rcases writeIs_cases h.len s l with ⟨q, rfl, hq, hl⟩ | ⟨hw, _⟩
  · have h1 := (write_live (S := D.S) (P := D.P) (n := D.steps) (k := q) (l := l) (by rw [h.len]; exact hq) hl).2
    rw [← h.form] at h1
    refine ⟨?_, ?_, ?_, writeD_fits h.fits _ _, ?_, ?_⟩
    · rw [h1]
    · rw [h1]
    · rw [h1]; exact h.len
    · rw [h1]; exact h.full
    · rw [h1]
      intro p hp
      rw [lastB, if_neg hk]
      rcases List.mem_append.1 hp with h2 | h2
      · obtain ⟨j, g1, g2, g3⟩ := h.pend p h2
        exact ⟨j, g1, by omega, g3⟩
      · rw [List.mem_singleton.1 h2]
        exact ⟨i, lastB_le L i, by omega, l, keep, hi, hl, rfl⟩
  · have h1 : writeD D s l = D := by
      rw [h.form] at hw
      have := (write_off hw).2
      rwa [← h.form] at this
    rw [h1]
    exact h.keep hk
theorem LsInv.bar {L : List Stp} {D : Dk} {i : Nat} (h : LsInv L D i) : LsInv L (barrierD D) (i + 1) := by
  have h1 := (bar_live (S := D.S) (P := D.P) (n := D.steps)).2
  rw [← h.form] at h1
  refine ⟨?_, ?_, ?_, barrierD_fits h.fits, ?_, ?_⟩
  · rw [h1]
  · rw [h1]
  · rw [h1]; show (settleN allF D.S D.P D.P.length).length = 16; rw [settleN_len]; exact h.len
  · rw [h1]
    intro s hs
    show ((settleN allF D.S D.P D.P.length).getD s []).length = 256
    rw [settle_pick h.fits.fit s _ (Nat.le_refl _)]
    exact pick_full (h.full s hs) h.fits.fit.pl _ (Nat.le_refl _)
  · rw [h1]; intro p hp; exact (List.not_mem_nil hp).elim
theorem LsInv.read {L : List Stp} {D : Dk} {i : Nat} (h : LsInv L D i) {s : Nat} (hs : s < 16) : 0 = readE D s ∧ readB D s = pickD D s ∧ (pickD D s).length = 256 := by
  have h1 := read_live (S := D.S) (P := D.P) (a := 0) (n := D.steps) (k := s) (by rw [h.len]; exact hs)
  rw [← h.form] at h1
  have hf : (pickN D.S D.P s D.P.length).length = 256 := pick_full (h.full s hs) h.fits.fit.pl _ (Nat.le_refl _)
  rw [if_neg (fun e => by rw [e] at hf; cases hf)] at h1
  exact ⟨h1.1.symm, h1.2, hf⟩
/-! ### the crash -/
def crashD (D : Dk) (keep : List Int) (t : Int) : Dk := ⟨settleN (keepF keep t) D.S D.P D.P.length, [], false, 0, D.steps⟩
theorem LsInv.crash {L : List Stp} {D : Dk} {i : Nat} (h : LsInv L D i) (keep : List Int) (t : Int) : 0 = onE (offD D) ∧ crashD D keep t = onD (offD D) keep t ∧ 3 = onE (crashD D keep t) ∧ crashD D keep t = onD (crashD D keep t) keep t ∧ 4 = readE (offD D) 0 ∧ readB (offD D) 0 = [] := ⟨rfl, rfl, rfl, rfl, rfl, rfl⟩
theorem crash_get {D : Dk} (hD : D.Fit) (keep : List Int) (t : Int) (s : Nat) : ∀ n, n ≤ D.P.length → (settleN (keepF keep t) D.S D.P n).getD s [] = D.S.getD s [] ∨ (∃ p ∈ D.P, p.1 = s ∧ (settleN (keepF keep t) D.S D.P n).getD s [] = p.2) ∨ ((settleN (keepF keep t) D.S D.P n).getD s [] = [] ∧ 0 ≤ t ∧ ∃ p ∈ D.P, p.1 = s) := by
  intro n
  induction n with
  | zero => intro _; exact .inl rfl
  | succ n ih =>
    intro hn
    have hlt := penAt_lt hD (i := n) (by omega)
    have hmem : penAt D.P n ∈ D.P := penAt_mem (by omega)
    have hlt2 : (penAt D.P n).1 < (settleN (keepF keep t) D.S D.P n).length := by rw [settleN_len]; exact hlt
    by_cases h1 : (n : Int) = t
    · rw [settle_torn h1]
      by_cases hs : (penAt D.P n).1 = s
      · right; right
        refine ⟨by rw [← hs, getD_set_eq hlt2], by omega, _, hmem, hs⟩
      · rw [getD_set_ne hs]; exact ih (by omega)
    · by_cases h2 : (n : Int) ∈ keep
      · rw [settle_keep h1 h2]
        by_cases hs : (penAt D.P n).1 = s
        · right; left
          exact ⟨_, hmem, hs, by rw [← hs, getD_set_eq hlt2]⟩
        · rw [getD_set_ne hs]; exact ih (by omega)
      · rw [settle_lose h1 h2]; exact ih (by omega)
/-- what a sector is behind a crash -/
inductive After (L : List Stp) (D : Dk) (last n : Nat) (t : Int) (D' : Dk) (s : Nat) : Prop where
  | was : 0 = readE D' s → readB D' s = D.S.getD s [] → After L D last n t D' s
  | wrote (j : Nat) (b : List UInt8) : 0 = readE D' s → readB D' s = b → b.length = 256 → last ≤ j → j < n → IsW L j s b → After L D last n t D' s
  | torn (j : Nat) (b : List UInt8) : 5 = readE D' s → readB D' s = [] → 0 ≤ t → last ≤ j → j < n → IsW L j s b → After L D last n t D' s
theorem LsInv.after {L : List Stp} {D : Dk} {n : Nat} (h : LsInv L D n) (keep : List Int) (t : Int) {s : Nat} (hs : s < 16) : After L D (lastB L n) n t (crashD D keep t) s := by
  have hlen : (settleN (keepF keep t) D.S D.P D.P.length).length = 16 := by rw [settleN_len]; exact h.len
  obtain ⟨h1, h2⟩ := read_live (S := settleN (keepF keep t) D.S D.P D.P.length) (P := []) (a := 0) (n := D.steps) (k := s) (by rw [hlen]; exact hs)
  have e : pickN (settleN (keepF keep t) D.S D.P D.P.length) [] s ([] : Pend).length = (settleN (keepF keep t) D.S D.P D.P.length).getD s [] := rfl
  rw [e] at h1 h2
  rcases crash_get h.fits.fit keep t s D.P.length (Nat.le_refl _) with g | ⟨p, hp, hps, g⟩ | ⟨g, ht, p, hp, hps⟩
  · rw [g] at h1 h2
    rw [if_neg (fun e => by have := h.full s hs; rw [e] at this; cases this)] at h1
    exact .was h1.symm h2
  · rw [g] at h1 h2
    have hl := h.fits.fit.pl p hp
    rw [if_neg (fun e => by rw [e] at hl; cases hl)] at h1
    obtain ⟨j, j1, j2, j3⟩ := h.pend p hp
    rw [hps] at j3
    exact .wrote j p.2 h1.symm h2 hl j1 j2 j3
  · rw [g] at h1 h2
    rw [if_pos rfl] at h1
    obtain ⟨j, j1, j2, j3⟩ := h.pend p hp
    rw [hps] at j3
    exact .torn j p.2 h1.symm h2 ht j1 j2 j3
/-! ### all that was pending kept -/
def countI (n : Nat) : List Int := (List.range n).map fun i : Nat => (i : Int)
theorem countI_len (n : Nat) : (countI n).length = n := by simp [countI]
theorem countI_succ (n : Nat) : countI (n + 1) = countI n ++ [(n : Int)] := by simp [countI, List.range_succ]
theorem countI_mem {n i : Nat} (h : i < n) : (i : Int) ∈ countI n := by
  unfold countI
  exact List.mem_map.2 ⟨i, List.mem_range.2 h, rfl⟩
theorem settle_all {S : List (List UInt8)} {P : Pend} (m : Nat) : ∀ n, n ≤ m → settleN (keepF (countI m) (-1)) S P n = settleN allF S P n := by
  intro n
  induction n with
  | zero => intro _; rfl
  | succ n ih =>
    intro hn
    rw [settle_keep (by omega) (countI_mem (by omega)), ih (by omega)]
    rfl
def readsL (D : Dk) (n : Nat) : List (List UInt8) := (List.range n).map (pickD D)
theorem readsL_len (D : Dk) (n : Nat) : (readsL D n).length = n := by simp [readsL]
theorem readsL_succ (D : Dk) (n : Nat) : readsL D (n + 1) = readsL D n ++ [pickD D n] := by simp [readsL, List.range_succ]
theorem readsL_le {L : List Stp} {D : Dk} {i : Nat} (h : LsInv L D i) : ∀ l ∈ readsL D 16, l.length ≤ 1048576 := by
  intro l hl
  obtain ⟨s, hs, rfl⟩ := List.mem_map.1 hl
  have := (h.read (List.mem_range.1 hs)).2.2
  omega
theorem LsInv.twin {L : List Stp} {D : Dk} {i : Nat} (h : LsInv L D i) : 0 = onE (offD D) ∧ crashD D (countI D.P.length) (-1) = onD (offD D) (countI D.P.length) (-1) ∧ (crashD D (countI D.P.length) (-1)).S = readsL D 16 := by
  refine ⟨rfl, rfl, ?_⟩
  show settleN (keepF (countI D.P.length) (-1)) D.S D.P D.P.length = _
  rw [settle_all _ _ (Nat.le_refl _)]
  apply List.ext_getElem
  · rw [settleN_len, readsL_len]; exact h.len
  · intro s h1 h2
    have hs : s < 16 := by rw [readsL_len] at h2; exact h2
    have e1 := settle_pick h.fits.fit s D.P.length (Nat.le_refl _)
    rw [List.getD_eq_getElem?_getD, List.getElem?_eq_getElem h1] at e1
    simp only [Option.getD_some] at e1
    rw [e1]
    simp [readsL, pickD]
theorem LsInv.crashFits {L : List Stp} {D : Dk} {i : Nat} (h : LsInv L D i) (keep : List Int) (t : Int) : (crashD D keep t).Fits (2 * i + 4) ∧ (offD D).Fits (2 * i + 2) := by
  have h1 := offD_fits h.fits
  exact ⟨by rw [(h.crash keep t).2.1]; exact onD_fits h1 keep t, h1⟩
end Go.Proofs.Ytcocodpeigbdaaa
