/-
  Maps of pages, the program's and the document's: what they hold, New, has, Set, Get, Clear, Copy. No condition but that a map reads as one.
-/
import Derived.Test.YtljbpflcnicaiaaSep
import Derived.Test.YtljbpflcnicaiaaCanon
import Derived.Test.YtljbpflcnicaiaaB
namespace Go.Proofs.Ytljbpflcnicaiaa
open Go.RowKit
set_option linter.unusedVariables false
set_option linter.unusedSimpArgs false

def secs (k : IntKind) (S : List Nat) : List Value := S.map fun s : Nat => .int k (s : Int)
theorem secs_len (k : IntKind) (S : List Nat) : (secs k S).length = S.length := by simp [secs]
theorem secs_get (k : IntKind) (S : List Nat) (i : Nat) (h : i < S.length) : (secs k S)[i]? = some (.int k ((S.getD i 0 : Nat) : Int)) := by
  simp [secs, List.getD_eq_getElem?_getD, List.getElem?_eq_getElem h]
theorem secs_set (k : IntKind) (S : List Nat) (i s : Nat) : (secs k S).set i (.int k (s : Int)) = secs k (S.set i s) := by simp [secs]
/-- 1024 sectors -/
def Good (S : List Nat) : Prop := S.length = 1024 ∧ ∀ i, S.getD i 0 < 65536
theorem Good.set {S : List Nat} (h : Good S) (i s : Nat) (hs : s < 65536) : Good (S.set i s) := by
  refine ⟨by rw [List.length_set]; exact h.1, fun j => ?_⟩
  rw [List.getD_eq_getElem?_getD, List.getElem?_set]
  split
  · split
    · exact hs
    · exact Nat.zero_lt_succ _
  · have := h.2 j
    rwa [List.getD_eq_getElem?_getD] at this
/-- the map in block b -/
def PM (w : World) (b : Nat) (S : List Nat) : Prop := Row w b 53 (secs .u16 S) ∧ Good S
def RM (w : World) (b : Nat) (S : List Nat) : Prop := Row w b 66 (secs .i64 S) ∧ Good S
theorem PM.cell {w : World} {b : Nat} {S : List Nat} (h : PM w b S) (i : Nat) (hi : i < 1024) : w.cell? ⟨b, i, none⟩ = some (.int .u16 ((S.getD i 0 : Nat) : Int)) := by
  rw [h.1.cell, secs_get _ _ _ (by rw [h.2.1]; exact hi)]
theorem RM.cell {w : World} {b : Nat} {S : List Nat} (h : RM w b S) (i : Nat) (hi : i < 1024) : w.cell? ⟨b, i, none⟩ = some (.int .i64 ((S.getD i 0 : Nat) : Int)) := by
  rw [h.1.cell, secs_get _ _ _ (by rw [h.2.1]; exact hi)]

def hasS (S : List Nat) (p : Int) : Bool := decide (0 ≤ p) && decide (p < 1024) && decide (0 < S.getD p.toNat 0)
theorem has_cases (S : List Nat) (p : Int) : (p < 0 ∧ hasS S p = false) ∨ (0 ≤ p ∧ ¬ p < 1024 ∧ hasS S p = false) ∨ ∃ k : Nat, p = k ∧ k < 1024 ∧ hasS S p = decide (0 < S.getD k 0) := by
  by_cases h1 : p < 0
  · left; exact ⟨h1, by rw [hasS, decide_eq_false (by omega : ¬ 0 ≤ p)]; rfl⟩
  · by_cases h2 : p < 1024
    · right; right
      refine ⟨p.toNat, by omega, by omega, ?_⟩
      rw [hasS, decide_eq_true (by omega : 0 ≤ p), decide_eq_true h2]; rfl
    · right; left
      exact ⟨by omega, h2, by rw [hasS, decide_eq_false h2, Bool.and_false]; rfl⟩
set_option maxHeartbeats 400000 in
theorem has_p (b : Nat) (S : List Nat) (p : Int) (w : World) (h : PM w b S) (B : Bool) (hB : Hid (B = hasS S p)) :
    Calls Try.prog 31 #[.pointer (some ⟨b, 0, none⟩), .int .i64 p] w fun e w' => e = .returned (.bool B) ∧ w = w' := by
  rcases has_cases S p with ⟨h1, h2⟩ | ⟨h0, h1, h2⟩ | ⟨k, rfl, h1, h2⟩
  · obtain rfl : B = false := hB.out.trans h2
    have h3 : ¬ 0 ≤ p := by omega
    clear h2
    go_enter Try.func31, Try.ntmps31
    go_wp2_with fail
    go_ret
    exact ⟨rfl, rfl⟩
  · obtain rfl : B = false := hB.out.trans h2
    clear h2
    go_enter Try.func31, Try.ntmps31
    go_wp2_with fail
    go_ret
    exact ⟨rfl, rfl⟩
  · have hc := h.cell k h1
    have hs := h.2.2 k
    have hB2 := hB.out.trans h2
    obtain ⟨s, hs0⟩ : ∃ s, s = S.getD k 0 := ⟨_, rfl⟩
    rw [← hs0] at hc hs hB2
    have h3 : (k : Int) < 1024 := by omega
    clear h2 hs0 h hB
    by_cases h0 : 0 < s
    · obtain rfl : B = true := hB2.trans (decide_eq_true h0)
      have h0' : (0 : Int) < s := by omega
      clear hB2
      go_enter Try.func31, Try.ntmps31
      go_wp2_with fail
      go_ret
      exact ⟨rfl, rfl⟩
    · obtain rfl : B = false := hB2.trans (decide_eq_false h0)
      have h0' : ¬ (0 : Int) < s := by omega
      clear hB2
      go_enter Try.func31, Try.ntmps31
      go_wp2_with fail
      go_ret
      exact ⟨rfl, rfl⟩
theorem has_h (b : Nat) (S : List Nat) (p : Int) (w : World) (h : PM w b S) :
    Calls Try.prog 31 #[.pointer (some ⟨b, 0, none⟩), .int .i64 p] w fun e w' => ∃ B : Bool, e = .returned (.bool B) ∧ Hid (B = hasS S p) ∧ w = w' :=
  (has_p b S p w h _ (Lib.hid rfl)).mono fun e w' ⟨he, hw⟩ => ⟨_, he, Lib.hid rfl, hw⟩
set_option maxHeartbeats 400000 in
theorem rhas_p (b : Nat) (S : List Nat) (p : Int) (w : World) (h : RM w b S) (B : Bool) (hB : Hid (B = hasS S p)) :
    Calls Try.prog 40 #[.pointer (some ⟨b, 0, none⟩), .int .i64 p] w fun e w' => e = .returned (.bool B) ∧ w = w' := by
  rcases has_cases S p with ⟨h1, h2⟩ | ⟨h0, h1, h2⟩ | ⟨k, rfl, h1, h2⟩
  · obtain rfl : B = false := hB.out.trans h2
    have h3 : ¬ 0 ≤ p := by omega
    clear h2
    go_enter Try.func40, Try.ntmps40
    go_wp2_with fail
    go_ret
    exact ⟨rfl, rfl⟩
  · obtain rfl : B = false := hB.out.trans h2
    clear h2
    go_enter Try.func40, Try.ntmps40
    go_wp2_with fail
    go_ret
    exact ⟨rfl, rfl⟩
  · have hc := h.cell k h1
    have hs := h.2.2 k
    have hB2 := hB.out.trans h2
    obtain ⟨s, hs0⟩ : ∃ s, s = S.getD k 0 := ⟨_, rfl⟩
    rw [← hs0] at hc hs hB2
    have h3 : (k : Int) < 1024 := by omega
    clear h2 hs0 h hB
    by_cases h0 : 0 < s
    · obtain rfl : B = true := hB2.trans (decide_eq_true h0)
      have h0' : (0 : Int) < s := by omega
      clear hB2
      go_enter Try.func40, Try.ntmps40
      go_wp2_with fail
      go_ret
      exact ⟨rfl, rfl⟩
    · obtain rfl : B = false := hB2.trans (decide_eq_false h0)
      have h0' : ¬ (0 : Int) < s := by omega
      clear hB2
      go_enter Try.func40, Try.ntmps40
      go_wp2_with fail
      go_ret
      exact ⟨rfl, rfl⟩
theorem rhas_h (b : Nat) (S : List Nat) (p : Int) (w : World) (h : RM w b S) :
    Calls Try.prog 40 #[.pointer (some ⟨b, 0, none⟩), .int .i64 p] w fun e w' => ∃ B : Bool, e = .returned (.bool B) ∧ Hid (B = hasS S p) ∧ w = w' :=
  (rhas_p b S p w h _ (Lib.hid rfl)).mono fun e w' ⟨he, hw⟩ => ⟨_, he, Lib.hid rfl, hw⟩


/-! ### what is set, told, cleared -/
theorem good_zero : Good (List.replicate 1024 0) := ⟨List.length_replicate, fun i => by rw [List.getD_eq_getElem?_getD, List.getElem?_replicate]; split <;> exact Nat.zero_lt_succ _⟩
def setIs (p q : Int) : Bool := decide (0 ≤ p) && decide (p < 1024) && decide (1 ≤ q) && decide (q ≤ 65535)
def setS (S : List Nat) (p q : Int) : List Nat := if setIs p q then S.set p.toNat q.toNat else S
def getS (S : List Nat) (p : Int) : Int := if hasS S p then ((S.getD p.toNat 0 : Nat) : Int) else 0
def clearS (S : List Nat) (p : Int) : List Nat := if hasS S p then S.set p.toNat 0 else S
theorem set_cases (p q : Int) : (p < 0 ∧ setIs p q = false) ∨ (¬ p < 0 ∧ 1024 ≤ p ∧ setIs p q = false) ∨ (¬ p < 0 ∧ ¬ 1024 ≤ p ∧ q < 1 ∧ setIs p q = false) ∨ (¬ p < 0 ∧ ¬ 1024 ≤ p ∧ ¬ q < 1 ∧ 65535 < q ∧ setIs p q = false) ∨
    ∃ k s : Nat, p = k ∧ q = s ∧ k < 1024 ∧ 1 ≤ s ∧ s ≤ 65535 ∧ setIs p q = true := by
  by_cases h1 : p < 0
  · left; exact ⟨h1, by rw [setIs, decide_eq_false (by omega : ¬ 0 ≤ p)]; rfl⟩
  right
  by_cases h2 : 1024 ≤ p
  · left; exact ⟨h1, h2, by rw [setIs, decide_eq_false (by omega : ¬ p < 1024)]; simp⟩
  right
  by_cases h3 : q < 1
  · left; exact ⟨h1, h2, h3, by rw [setIs, decide_eq_false (by omega : ¬ 1 ≤ q)]; simp⟩
  right
  by_cases h4 : 65535 < q
  · left; exact ⟨h1, h2, h3, h4, by rw [setIs, decide_eq_false (by omega : ¬ q ≤ 65535)]; simp⟩
  right
  refine ⟨p.toNat, q.toNat, by omega, by omega, by omega, by omega, by omega, ?_⟩
  rw [setIs, decide_eq_true (by omega : 0 ≤ p), decide_eq_true (by omega : p < 1024), decide_eq_true (by omega : 1 ≤ q), decide_eq_true (by omega : q ≤ 65535)]; rfl
theorem has_true {S : List Nat} {p : Int} (h : hasS S p = true) : ∃ k : Nat, p = k ∧ k < 1024 ∧ 0 < S.getD k 0 := by
  rcases has_cases S p with ⟨h1, h2⟩ | ⟨h0, h1, h2⟩ | ⟨k, h0, h1, h2⟩
  · rw [h2] at h; cases h
  · rw [h2] at h; cases h
  · rw [h2] at h; exact ⟨k, h0, h1, of_decide_eq_true h⟩
set_option maxRecDepth 100000 in
set_option maxHeartbeats 400000 in
theorem set_p (b : Nat) (S : List Nat) (p q : Int) (w : World) (h : PM w b S) (B : Bool) (hB : Hid (B = setIs p q)) (T : List Nat) (hT : Hid (T = setS S p q)) :
    Calls Try.prog 15 #[.pointer (some ⟨b, 0, none⟩), .int .i64 p, .int .i64 q] w fun e w' => e = .returned (.bool B) ∧ PM w' b T ∧ Mods (fun g => g = b) w w' := by
  rcases set_cases p q with ⟨h1, h2⟩ | ⟨h0, h1, h2⟩ | ⟨h0, h1, h3, h2⟩ | ⟨h0, h1, h3, h4, h2⟩ | ⟨k, s, rfl, rfl, h1, h3, h4, h2⟩
  · obtain rfl : B = false := hB.out.trans h2
    obtain rfl : T = S := hT.out.trans (by rw [setS, h2]; rfl)
    clear h2 hT hB
    go_enter Try.func15, Try.ntmps15
    go_wp2_with fail
    go_ret
    exact ⟨rfl, h, Mods.refl _ _⟩
  · obtain rfl : B = false := hB.out.trans h2
    obtain rfl : T = S := hT.out.trans (by rw [setS, h2]; rfl)
    clear h2 hT hB
    go_enter Try.func15, Try.ntmps15
    go_wp2_with fail
    go_ret
    exact ⟨rfl, h, Mods.refl _ _⟩
  · obtain rfl : B = false := hB.out.trans h2
    obtain rfl : T = S := hT.out.trans (by rw [setS, h2]; rfl)
    clear h2 hT hB
    go_enter Try.func15, Try.ntmps15
    go_wp2_with fail
    go_ret
    exact ⟨rfl, h, Mods.refl _ _⟩
  · obtain rfl : B = false := hB.out.trans h2
    obtain rfl : T = S := hT.out.trans (by rw [setS, h2]; rfl)
    clear h2 hT hB
    go_enter Try.func15, Try.ntmps15
    go_wp2_with fail
    go_ret
    exact ⟨rfl, h, Mods.refl _ _⟩
  · obtain rfl : B = true := hB.out.trans h2
    obtain rfl : T = S.set k s := hT.out.trans (by rw [setS, h2]; rfl)
    have hc := h.cell k h1
    have hf := h.1.free k
    have hr := h.1.set k (.int .u16 (s : Int))
    have hg := h.2.set k s (by omega)
    rw [secs_set] at hr
    have h5 : (k : Int) < 1024 := by omega
    have h6 : ¬ (s : Int) < 1 := by omega
    have h7 : ¬ (65535 : Int) < s := by omega
    have HR : Hid (PM (w.setCell ⟨b, k, none⟩ (.int .u16 (s : Int))) b (S.set k s)) := ⟨hr, hg⟩
    clear h2 hT hB hr hg h
    go_enter Try.func15, Try.ntmps15
    go_wp2_with fail
    go_ret
    exact ⟨rfl, HR.out, Mods.set w b k _⟩
theorem set_h (b : Nat) (S : List Nat) (p q : Int) (w : World) (h : PM w b S) :
    Calls Try.prog 15 #[.pointer (some ⟨b, 0, none⟩), .int .i64 p, .int .i64 q] w fun e w' => ∃ (B : Bool) (T : List Nat), e = .returned (.bool B) ∧ Hid (B = setIs p q ∧ T = setS S p q) ∧ PM w' b T ∧ Mods (fun g => g = b) w w' :=
  (set_p b S p q w h _ (Lib.hid rfl) _ (Lib.hid rfl)).mono fun e w' ⟨he, h1, h2⟩ => ⟨_, _, he, Lib.hid ⟨rfl, rfl⟩, h1, h2⟩
set_option maxRecDepth 100000 in
set_option maxHeartbeats 400000 in
theorem rset_p (b : Nat) (S : List Nat) (p q : Int) (w : World) (h : RM w b S) (B : Bool) (hB : Hid (B = setIs p q)) (T : List Nat) (hT : Hid (T = setS S p q)) :
    Calls Try.prog 37 #[.pointer (some ⟨b, 0, none⟩), .int .i64 p, .int .i64 q] w fun e w' => e = .returned (.bool B) ∧ RM w' b T ∧ Mods (fun g => g = b) w w' := by
  rcases set_cases p q with ⟨h1, h2⟩ | ⟨h0, h1, h2⟩ | ⟨h0, h1, h3, h2⟩ | ⟨h0, h1, h3, h4, h2⟩ | ⟨k, s, rfl, rfl, h1, h3, h4, h2⟩
  · obtain rfl : B = false := hB.out.trans h2
    obtain rfl : T = S := hT.out.trans (by rw [setS, h2]; rfl)
    clear h2 hT hB
    go_enter Try.func37, Try.ntmps37
    go_wp2_with fail
    go_ret
    exact ⟨rfl, h, Mods.refl _ _⟩
  · obtain rfl : B = false := hB.out.trans h2
    obtain rfl : T = S := hT.out.trans (by rw [setS, h2]; rfl)
    clear h2 hT hB
    go_enter Try.func37, Try.ntmps37
    go_wp2_with fail
    go_ret
    exact ⟨rfl, h, Mods.refl _ _⟩
  · obtain rfl : B = false := hB.out.trans h2
    obtain rfl : T = S := hT.out.trans (by rw [setS, h2]; rfl)
    clear h2 hT hB
    go_enter Try.func37, Try.ntmps37
    go_wp2_with fail
    go_ret
    exact ⟨rfl, h, Mods.refl _ _⟩
  · obtain rfl : B = false := hB.out.trans h2
    obtain rfl : T = S := hT.out.trans (by rw [setS, h2]; rfl)
    clear h2 hT hB
    go_enter Try.func37, Try.ntmps37
    go_wp2_with fail
    go_ret
    exact ⟨rfl, h, Mods.refl _ _⟩
  · obtain rfl : B = true := hB.out.trans h2
    obtain rfl : T = S.set k s := hT.out.trans (by rw [setS, h2]; rfl)
    have hc := h.cell k h1
    have hf := h.1.free k
    have hr := h.1.set k (.int .i64 (s : Int))
    have hg := h.2.set k s (by omega)
    rw [secs_set] at hr
    have h5 : (k : Int) < 1024 := by omega
    have h6 : ¬ (s : Int) < 1 := by omega
    have h7 : ¬ (65535 : Int) < s := by omega
    have HR : Hid (RM (w.setCell ⟨b, k, none⟩ (.int .i64 (s : Int))) b (S.set k s)) := ⟨hr, hg⟩
    clear h2 hT hB hr hg h
    go_enter Try.func37, Try.ntmps37
    go_wp2_with fail
    go_ret
    exact ⟨rfl, HR.out, Mods.set w b k _⟩
theorem rset_h (b : Nat) (S : List Nat) (p q : Int) (w : World) (h : RM w b S) :
    Calls Try.prog 37 #[.pointer (some ⟨b, 0, none⟩), .int .i64 p, .int .i64 q] w fun e w' => ∃ (B : Bool) (T : List Nat), e = .returned (.bool B) ∧ Hid (B = setIs p q ∧ T = setS S p q) ∧ RM w' b T ∧ Mods (fun g => g = b) w w' :=
  (rset_p b S p q w h _ (Lib.hid rfl) _ (Lib.hid rfl)).mono fun e w' ⟨he, h1, h2⟩ => ⟨_, _, he, Lib.hid ⟨rfl, rfl⟩, h1, h2⟩
set_option maxHeartbeats 400000 in
theorem get_p (b : Nat) (S : List Nat) (p : Int) (w : World) (h : PM w b S) (B : Bool) (hB : Hid (B = hasS S p)) (V : Int) (hV : Hid (V = getS S p)) :
    Calls Try.prog 14 #[.pointer (some ⟨b, 0, none⟩), .int .i64 p] w fun e w' => e = .returned (.tuple #[.int .i64 V, .bool B]) ∧ w = w' := by
  have hc := has_p b S p w h B hB
  have H := Lib.hid hc
  clear hc
  cases B with
  | false =>
    obtain rfl : V = 0 := hV.out.trans (by rw [getS, ← hB.out]; rfl)
    clear hV hB
    go_enter Try.func14, Try.ntmps14
    go_wp2_with fail
    refine H.out.mono ?_
    rintro e w' ⟨rfl, rfl⟩
    go_wp2_with fail
    go_ret2
    exact ⟨rfl, rfl⟩
  | true =>
    obtain ⟨k, hk, h1, h2⟩ := has_true hB.out.symm
    have hc := h.cell k h1
    have hs := h.2.2 k
    have hV2 := hV.out
    rw [getS, ← hB.out, if_pos rfl, hk, Int.toNat_natCast] at hV2
    obtain ⟨s, hs0⟩ : ∃ s, s = S.getD k 0 := ⟨_, rfl⟩
    rw [← hs0] at hc hs hV2
    have h3 : (k : Int) < 1024 := by omega
    clear hs0 h2 hV hB
    subst hk hV2
    go_enter Try.func14, Try.ntmps14
    go_wp2_with fail
    refine H.out.mono ?_
    rintro e w' ⟨rfl, rfl⟩
    go_wp2_with fail
    go_ret2
    exact ⟨rfl, rfl⟩
theorem get_h (b : Nat) (S : List Nat) (p : Int) (w : World) (h : PM w b S) :
    Calls Try.prog 14 #[.pointer (some ⟨b, 0, none⟩), .int .i64 p] w fun e w' => ∃ (V : Int) (B : Bool), e = .returned (.tuple #[.int .i64 V, .bool B]) ∧ Hid (B = hasS S p ∧ V = getS S p) ∧ w = w' :=
  (get_p b S p w h _ (Lib.hid rfl) _ (Lib.hid rfl)).mono fun e w' ⟨he, h1⟩ => ⟨_, _, he, Lib.hid ⟨rfl, rfl⟩, h1⟩
set_option maxHeartbeats 400000 in
theorem rget_p (b : Nat) (S : List Nat) (p : Int) (w : World) (h : RM w b S) (B : Bool) (hB : Hid (B = hasS S p)) (V : Int) (hV : Hid (V = getS S p)) :
    Calls Try.prog 26 #[.pointer (some ⟨b, 0, none⟩), .int .i64 p] w fun e w' => e = .returned (.tuple #[.int .i64 V, .bool B]) ∧ w = w' := by
  have hc := rhas_p b S p w h B hB
  have H := Lib.hid hc
  clear hc
  cases B with
  | false =>
    obtain rfl : V = 0 := hV.out.trans (by rw [getS, ← hB.out]; rfl)
    clear hV hB
    go_enter Try.func26, Try.ntmps26
    go_wp2_with fail
    refine H.out.mono ?_
    rintro e w' ⟨rfl, rfl⟩
    go_wp2_with fail
    go_ret2
    exact ⟨rfl, rfl⟩
  | true =>
    obtain ⟨k, hk, h1, h2⟩ := has_true hB.out.symm
    have hc := h.cell k h1
    have hs := h.2.2 k
    have hV2 := hV.out
    rw [getS, ← hB.out, if_pos rfl, hk, Int.toNat_natCast] at hV2
    obtain ⟨s, hs0⟩ : ∃ s, s = S.getD k 0 := ⟨_, rfl⟩
    rw [← hs0] at hc hs hV2
    have h3 : (k : Int) < 1024 := by omega
    clear hs0 h2 hV hB
    subst hk hV2
    go_enter Try.func26, Try.ntmps26
    go_wp2_with fail
    refine H.out.mono ?_
    rintro e w' ⟨rfl, rfl⟩
    go_wp2_with fail
    go_ret2
    exact ⟨rfl, rfl⟩
theorem rget_h (b : Nat) (S : List Nat) (p : Int) (w : World) (h : RM w b S) :
    Calls Try.prog 26 #[.pointer (some ⟨b, 0, none⟩), .int .i64 p] w fun e w' => ∃ (V : Int) (B : Bool), e = .returned (.tuple #[.int .i64 V, .bool B]) ∧ Hid (B = hasS S p ∧ V = getS S p) ∧ w = w' :=
  (rget_p b S p w h _ (Lib.hid rfl) _ (Lib.hid rfl)).mono fun e w' ⟨he, h1⟩ => ⟨_, _, he, Lib.hid ⟨rfl, rfl⟩, h1⟩
set_option maxHeartbeats 400000 in
theorem clear_p (b : Nat) (S : List Nat) (p : Int) (w : World) (h : PM w b S) (B : Bool) (hB : Hid (B = hasS S p)) (T : List Nat) (hT : Hid (T = clearS S p)) :
    Calls Try.prog 16 #[.pointer (some ⟨b, 0, none⟩), .int .i64 p] w fun e w' => e = .returned (.bool B) ∧ PM w' b T ∧ Mods (fun g => g = b) w w' := by
  have hc := has_p b S p w h B hB
  have H := Lib.hid hc
  clear hc
  cases B with
  | false =>
    obtain rfl : T = S := hT.out.trans (by rw [clearS, ← hB.out]; rfl)
    clear hT hB
    go_enter Try.func16, Try.ntmps16
    go_wp2_with fail
    refine H.out.mono ?_
    rintro e w' ⟨rfl, rfl⟩
    go_wp2_with fail
    go_ret
    exact ⟨rfl, h, Mods.refl _ _⟩
  | true =>
    obtain ⟨k, hk, h1, h2⟩ := has_true hB.out.symm
    have hT2 := hT.out
    rw [clearS, ← hB.out, if_pos rfl, hk, Int.toNat_natCast] at hT2
    have hc := h.cell k h1
    have hf := h.1.free k
    have hr := h.1.set k (.int .u16 ((0 : Nat) : Int))
    have hg := h.2.set k 0 (by omega)
    rw [secs_set] at hr
    have h3 : (k : Int) < 1024 := by omega
    subst hk hT2
    have HR : Hid (PM (w.setCell ⟨b, k, none⟩ (.int .u16 0)) b (S.set k 0)) := ⟨hr, hg⟩
    clear h2 hT hB hr hg h
    go_enter Try.func16, Try.ntmps16
    go_wp2_with fail
    refine H.out.mono ?_
    rintro e w' ⟨rfl, rfl⟩
    go_wp2_with fail
    go_ret
    exact ⟨rfl, HR.out, Mods.set w b k _⟩
theorem clear_h (b : Nat) (S : List Nat) (p : Int) (w : World) (h : PM w b S) :
    Calls Try.prog 16 #[.pointer (some ⟨b, 0, none⟩), .int .i64 p] w fun e w' => ∃ (B : Bool) (T : List Nat), e = .returned (.bool B) ∧ Hid (B = hasS S p ∧ T = clearS S p) ∧ PM w' b T ∧ Mods (fun g => g = b) w w' :=
  (clear_p b S p w h _ (Lib.hid rfl) _ (Lib.hid rfl)).mono fun e w' ⟨he, h1, h2⟩ => ⟨_, _, he, Lib.hid ⟨rfl, rfl⟩, h1, h2⟩
set_option maxHeartbeats 400000 in
theorem rclear_p (b : Nat) (S : List Nat) (p : Int) (w : World) (h : RM w b S) (B : Bool) (hB : Hid (B = hasS S p)) (T : List Nat) (hT : Hid (T = clearS S p)) :
    Calls Try.prog 38 #[.pointer (some ⟨b, 0, none⟩), .int .i64 p] w fun e w' => e = .returned (.bool B) ∧ RM w' b T ∧ Mods (fun g => g = b) w w' := by
  have hc := rhas_p b S p w h B hB
  have H := Lib.hid hc
  clear hc
  cases B with
  | false =>
    obtain rfl : T = S := hT.out.trans (by rw [clearS, ← hB.out]; rfl)
    clear hT hB
    go_enter Try.func38, Try.ntmps38
    go_wp2_with fail
    refine H.out.mono ?_
    rintro e w' ⟨rfl, rfl⟩
    go_wp2_with fail
    go_ret
    exact ⟨rfl, h, Mods.refl _ _⟩
  | true =>
    obtain ⟨k, hk, h1, h2⟩ := has_true hB.out.symm
    have hT2 := hT.out
    rw [clearS, ← hB.out, if_pos rfl, hk, Int.toNat_natCast] at hT2
    have hc := h.cell k h1
    have hf := h.1.free k
    have hr := h.1.set k (.int .i64 ((0 : Nat) : Int))
    have hg := h.2.set k 0 (by omega)
    rw [secs_set] at hr
    have h3 : (k : Int) < 1024 := by omega
    subst hk hT2
    have HR : Hid (RM (w.setCell ⟨b, k, none⟩ (.int .i64 0)) b (S.set k 0)) := ⟨hr, hg⟩
    clear h2 hT hB hr hg h
    go_enter Try.func38, Try.ntmps38
    go_wp2_with fail
    refine H.out.mono ?_
    rintro e w' ⟨rfl, rfl⟩
    go_wp2_with fail
    go_ret
    exact ⟨rfl, HR.out, Mods.set w b k _⟩
theorem rclear_h (b : Nat) (S : List Nat) (p : Int) (w : World) (h : RM w b S) :
    Calls Try.prog 38 #[.pointer (some ⟨b, 0, none⟩), .int .i64 p] w fun e w' => ∃ (B : Bool) (T : List Nat), e = .returned (.bool B) ∧ Hid (B = hasS S p ∧ T = clearS S p) ∧ RM w' b T ∧ Mods (fun g => g = b) w w' :=
  (rclear_p b S p w h _ (Lib.hid rfl) _ (Lib.hid rfl)).mono fun e w' ⟨he, h1, h2⟩ => ⟨_, _, he, Lib.hid ⟨rfl, rfl⟩, h1, h2⟩
theorem zero_row (w : World) : Row (w.alloc (.cells Try.zeroCells53 53)) w.heap.size 53 (secs .u16 (List.replicate 1024 0)) := by
  have e : Try.zeroCells53 = (secs .u16 (List.replicate 1024 0)).toArray := by kernel_rfl
  rw [e]
  exact heap_alloc_new _ _
set_option maxHeartbeats 400000 in
theorem new_h (w : World) : Calls Try.prog 11 #[] w fun e w' => e = .returned (.pointer (some ⟨w.heap.size, 0, none⟩)) ∧ PM w' w.heap.size (List.replicate 1024 0) ∧ Below w.heap.size w w' := by
  go_enter Try.func11, Try.ntmps11
  go_wp2_with fail
  go_ret
  exact ⟨rfl, ⟨zero_row w, good_zero⟩, (Below.refl _ _).alloc (Nat.le_refl _) _⟩
theorem rzero_row (w : World) : Row (w.alloc (.cells Try.zeroCells66 66)) w.heap.size 66 (secs .i64 (List.replicate 1024 0)) := by
  have e : Try.zeroCells66 = (secs .i64 (List.replicate 1024 0)).toArray := by kernel_rfl
  rw [e]
  exact heap_alloc_new _ _
set_option maxHeartbeats 400000 in
theorem rnew_h (w : World) : Calls Try.prog 23 #[] w fun e w' => e = .returned (.pointer (some ⟨w.heap.size, 0, none⟩)) ∧ RM w' w.heap.size (List.replicate 1024 0) ∧ Below w.heap.size w w' := by
  go_enter Try.func23, Try.ntmps23
  go_wp2_with fail
  go_ret
  exact ⟨rfl, ⟨rzero_row w, good_zero⟩, (Below.refl _ _).alloc (Nat.le_refl _) _⟩
set_option maxHeartbeats 400000 in
theorem copy_h (b : Nat) (S : List Nat) (w : World) (h : PM w b S) : Calls Try.prog 13 #[.pointer (some ⟨b, 0, none⟩)] w fun e w' => e = .returned (.pointer (some ⟨w.heap.size, 0, none⟩)) ∧ PM w' w.heap.size S ∧ Below w.heap.size w w' := by
  have hr := h.1
  have hsz : (Try.prog.info? 53).map (·.size) = some (secs .u16 S).length := by rw [secs_len, h.2.1]; kernel_rfl
  have hz := zero_row w
  have hl2 : (secs .u16 (List.replicate 1024 0)).length = (secs .u16 S).length := by rw [secs_len, secs_len, h.2.1, List.length_replicate]
  have h1 : (secs .u16 S).all (·.oneCell') = true := by unfold secs; rw [List.all_map]; exact List.all_eq_true.2 fun _ _ => rfl
  have HS := Lib.hid hsz
  have HL := Lib.hid hl2
  have H1 := Lib.hid h1
  have HZ := Lib.hid hz
  clear hsz hl2 h1 hz
  go_enter Try.func13, Try.ntmps13
  go_wp2_with (first | refine wpL_loadRow rfl _ _ rfl rfl hr Try.underlying53 rfl HS.out ?_ | (refine wpL_storeRow rfl _ _ _ rfl rfl rfl HZ.out HS.out HL.out H1.out ?_; intro w' hg' hr'))
  go_ret
  exact ⟨rfl, ⟨hr', h.2⟩, ((Below.refl w.heap.size w).alloc (Nat.le_refl _) (.cells Try.zeroCells53 53)).grown hg' (by simp) (fun k hk => by cases hk; exact Nat.le_refl _)⟩
set_option maxHeartbeats 400000 in
theorem rcopy_h (b : Nat) (S : List Nat) (w : World) (h : RM w b S) : Calls Try.prog 24 #[.pointer (some ⟨b, 0, none⟩)] w fun e w' => e = .returned (.pointer (some ⟨w.heap.size, 0, none⟩)) ∧ RM w' w.heap.size S ∧ Below w.heap.size w w' := by
  have hr := h.1
  have hsz : (Try.prog.info? 66).map (·.size) = some (secs .i64 S).length := by rw [secs_len, h.2.1]; kernel_rfl
  have hz := rzero_row w
  have hl2 : (secs .i64 (List.replicate 1024 0)).length = (secs .i64 S).length := by rw [secs_len, secs_len, h.2.1, List.length_replicate]
  have h1 : (secs .i64 S).all (·.oneCell') = true := by unfold secs; rw [List.all_map]; exact List.all_eq_true.2 fun _ _ => rfl
  have HS := Lib.hid hsz
  have HL := Lib.hid hl2
  have H1 := Lib.hid h1
  have HZ := Lib.hid hz
  clear hsz hl2 h1 hz
  go_enter Try.func24, Try.ntmps24
  go_wp2_with (first | refine wpL_loadRow rfl _ _ rfl rfl hr Try.underlying66 rfl HS.out ?_ | (refine wpL_storeRow rfl _ _ _ rfl rfl rfl HZ.out HS.out HL.out H1.out ?_; intro w' hg' hr'))
  go_ret
  exact ⟨rfl, ⟨hr', h.2⟩, ((Below.refl w.heap.size w).alloc (Nat.le_refl _) (.cells Try.zeroCells66 66)).grown hg' (by simp) (fun k hk => by cases hk; exact Nat.le_refl _)⟩
end Go.Proofs.Ytljbpflcnicaiaa
