/-
  The walks of octet: Clone, Cut, Fill, says. Conditions: the slice reads as bytes.
-/
import Derived.Test.YtoddklfblcfoiaaDoorRange
import Derived.Test.YtoddklfblcfoiaaDoorB
namespace Go.Proofs.YtoddklfblcfoiaaDoor
open Go.RowKit Go.Shelf
set_option linter.unusedVariables false

theorem says_any (n : Int) (w : World) : Calls Tryd.prog 53 #[.int .i64 n] w fun e w' => e = .returned (.bool (n == 1 || n == 2 || n == 4 || n == 8)) ∧ w = w' := by
  by_cases h1 : n = 1
  · subst h1
    go_enter Tryd.func53, Tryd.ntmps53
    go_wp2
    go_ret
    exact ⟨rfl, rfl⟩
  have e1 : (n == 1) = false := by simpa using h1
  by_cases h2 : n = 2
  · subst h2
    go_enter Tryd.func53, Tryd.ntmps53
    go_wp2
    go_ret
    exact ⟨rfl, rfl⟩
  have e2 : (n == 2) = false := by simpa using h2
  by_cases h4 : n = 4
  · subst h4
    go_enter Tryd.func53, Tryd.ntmps53
    go_wp2
    go_ret
    exact ⟨rfl, rfl⟩
  have e4 : (n == 4) = false := by simpa using h4
  go_enter Tryd.func53, Tryd.ntmps53
  go_wp2
  go_ret
  exact ⟨by simp [e1, e2, e4], rfl⟩

/-- what Cut tells -/
def cutIs (l : List UInt8) (at_ n : Int) : Bool := decide (0 ≤ at_) && decide (at_ ≤ l.length) && decide (0 ≤ n) && decide (n ≤ l.length - at_)
def cutL (l : List UInt8) (at_ n : Int) : List UInt8 := if cutIs l at_ n then (l.drop at_.toNat).take n.toNat else []

set_option maxHeartbeats 800000 in
theorem cut_any (a : Option Addr) (n c : Nat) (l : List UInt8) (w : World) (at_ k : Int) (hl : Sl w 1 (.slice a n c) n (bvs l)) (hsz : n ≤ 140737488355328) :
    Calls Tryd.prog 56 #[.slice a n c, .int .i64 at_, .int .i64 k] w fun e w' => ∃ v, e = .returned (.tuple #[v, .bool (cutIs l at_ k)]) ∧ Own w' w.heap.size 1 v (cutL l at_ k).length (bvs (cutL l at_ k)) ∧ Below w.heap.size w w' := by
  have HL := Lib.hid hl
  have hn := hl.len
  clear hl
  by_cases h1 : at_ < 0
  · have HC : Hid (cutIs l at_ k = false) := by show cutIs l at_ k = false; simp [cutIs]; omega
    go_enter Tryd.func56, Tryd.ntmps56
    go_wp2
    go_ret2
    rw [cutL, HC.out]
    exact ⟨_, rfl, Own.nil _ _ _, Below.refl _ _⟩
  by_cases h2 : (n : Int) < at_
  · have HC : Hid (cutIs l at_ k = false) := by show cutIs l at_ k = false; simp [cutIs]; omega
    go_enter Tryd.func56, Tryd.ntmps56
    go_wp2
    go_ret2
    rw [cutL, HC.out]
    exact ⟨_, rfl, Own.nil _ _ _, Below.refl _ _⟩
  obtain ⟨p, rfl⟩ : ∃ p : Nat, at_ = p := ⟨at_.toNat, by omega⟩
  have hp : p ≤ n := by omega
  clear h1 h2
  by_cases hk : 0 ≤ k ∧ k ≤ n - p
  · obtain ⟨q, rfl⟩ : ∃ q : Nat, k = q := ⟨k.toNat, by omega⟩
    have hq : q ≤ n - p := by omega
    have HC : Hid (cutIs l p q = true) := by show cutIs l p q = true; simp [cutIs]; omega
    have HX : Hid (((bvs l).drop p |>.take (n - p)).take q = bvs (cutL l p q)) := by
      show ((bvs l).drop p |>.take (n - p)).take q = bvs (cutL l p q)
      rw [cutL, HC.out, List.take_take, Nat.min_eq_left hq, bvs_drop, bvs_take]; rfl
    have HY : Hid ((cutL l p q).length = q) := by
      show (cutL l p q).length = q
      rw [cutL, HC.out]; simp; omega
    have hqi : (q : Int) ≤ ((n - p : Nat) : Int) := by omega
    clear hk
    go_enter Tryd.func56, Tryd.ntmps56
    go_wp2_with (first | (refine wpL_cut etB rfl (.tmp 17) _ none none rfl p n c HL.out rfl (bounds_l _ _ _ _ _ hp) hp (Nat.le_refl _) (by omega) (by omega) ?_; intro av hav; have HA := Lib.hid hav; clear hav) | (refine wpL_cut etB rfl (.tmp 28) none _ none rfl 0 q (c - p) HA.out rfl (bounds_h _ _ _ _ _ (by omega)) (by omega) hq (by omega) (by omega) ?_; simp only [Nat.sub_zero, List.drop_zero]; intro av2 hav2; rw [HX.out] at hav2; have HA2 := Lib.hid hav2; clear hav2))
    refine (clone_any _ _ _ (cutL l p q) _ HA2.out (by omega)).mono ?_
    rintro e w2 ⟨v2, rfl, hown, hb⟩
    have HO := Lib.hid hown
    clear hown
    go_wp2_with fail
    go_ret2
    rw [HC.out, HY.out]
    exact ⟨_, rfl, HO.out, hb⟩
  · have HC : Hid (cutIs l p k = false) := by show cutIs l p k = false; simp [cutIs]; omega
    by_cases hk0 : k < 0
    · go_enter Tryd.func56, Tryd.ntmps56
      go_wp2_with (refine wpL_cut etB rfl (.tmp 17) _ none none rfl p n c HL.out rfl (bounds_l _ _ _ _ _ hp) hp (Nat.le_refl _) (by omega) (by omega) ?_; intro av hav; have HA := Lib.hid hav; clear hav)
      go_ret2
      rw [cutL, HC.out]
      exact ⟨_, rfl, Own.nil _ _ _, Below.refl _ _⟩
    · have hk1 : ((n - p : Nat) : Int) < k := by omega
      have hk2 : 0 ≤ k := by omega
      go_enter Tryd.func56, Tryd.ntmps56
      go_wp2_with (refine wpL_cut etB rfl (.tmp 17) _ none none rfl p n c HL.out rfl (bounds_l _ _ _ _ _ hp) hp (Nat.le_refl _) (by omega) (by omega) ?_; intro av hav; have HA := Lib.hid hav; clear hav)
      go_ret2
      rw [cutL, HC.out]
      exact ⟨_, rfl, Own.nil _ _ _, Below.refl _ _⟩

/-- what Fill tells -/
def fillIs (l : List UInt8) (n : Int) : Bool := decide (n ≤ 1048576) && decide (l.length ≤ n)
def fillL (l : List UInt8) (n : Int) : List UInt8 := if fillIs l n then l ++ List.replicate (n.toNat - l.length) 0 else []

end Go.Proofs.YtoddklfblcfoiaaDoor
