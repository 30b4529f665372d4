/-
  The walk of CrcLog: it returns true, and writes nothing that was there. No condition.
-/
import Derived.Test.YtepknjnkdjnihaaW4
import Derived.Test.YtepknjnkdjnihaaP4
namespace Go.Proofs.Ytepknjnkdjnihaa
open Go.RowKit
set_option linter.unusedVariables false

/-- a cell of a slice that is read -/
theorem Sl.at {w : World} {a : Option Addr} {n c k : Nat} {xs : List Value} (h : Sl w 1 (.slice a n c) n xs) (hk : k < n) :
    ∃ b off u, a = some ⟨b, off, none⟩ ∧ xs[k]? = some u ∧ w.cell? ⟨b, off + k, none⟩ = some u := by
  obtain ⟨hl, a', c', he, h1, h2, h3, h4⟩ := h
  cases he
  obtain ⟨u, hu⟩ : ∃ u, xs[k]? = some u := ⟨xs[k]'(by omega), by simp [show k < xs.length by omega]⟩
  obtain ⟨b, off, ha, hc⟩ := h4 k u hu
  exact ⟨b, off, u, ha, hu, hc⟩
theorem Sl.bound {w : World} {a : Option Addr} {n c s : Nat} {xs : List Value} (h : Sl w s (.slice a n c) n xs) : n ≤ 9223372036854775807 := by
  obtain ⟨hl, a', c', he, h1, h2, h3, h4⟩ := h
  cases he
  simp [maxLen] at h2; omega
def flat (rs : List (List UInt8)) (k : Nat) : List UInt8 := (rs.take k).flatten
theorem flat_succ (rs : List (List UInt8)) (k : Nat) (r : List UInt8) (h : rs[k]? = some r) : flat rs (k + 1) = flat rs k ++ r := by
  unfold flat
  have hk := (List.getElem?_eq_some_iff.1 h).1
  have he := (List.getElem?_eq_some_iff.1 h).2
  rw [List.take_succ_eq_append_getElem hk, he]; simp

set_option maxHeartbeats 400000 in
theorem log_walk (a : Option Addr) (n c : Nat) (vs : List Value) (rs : List (List UInt8)) (w : World) (hl : Sl w 1 (.slice a n c) n vs)
    (hr : ∀ (k : Nat) (u : Value), vs[k]? = some u → ∃ r, rs[k]? = some r ∧ Sl w 1 u r.length (bvs r)) :
    Calls Try.prog 7 #[.slice a n c] w fun e w' => e = .returned (.bool true) ∧ Below w.heap.size w w' := by
  have HL := Lib.hid hl
  have hn := hl.bound
  have HR := Lib.hid hr
  clear hl hr
  by_cases hbig : 100 < n
  · go_enter Try.func7, Try.ntmps7
    go_wp2_with fail
    refine (works_any _).mono ?_
    rintro e w9 ⟨rfl, hb9⟩
    go_wp2_with fail
    go_ret
    exact ⟨rfl, hb9⟩
  · go_enter Try.func7, Try.ntmps7
    go_wp2_with fail
    refine (crcSum_any none 0 0 [] _ ⟨rfl, none, 0, rfl, Nat.le_refl _, by decide, fun _ => rfl, fun j u hu => by simp [bvs] at hu⟩).mono ?_
    rintro e w1 ⟨rfl, hb1⟩
    have HB := Lib.hid hb1
    clear hb1
    go_wp2_with fail
    go_loopw [3, 4, 5] (fun v s i wr => ∃ k m : Nat, k ≤ n ∧ i = .int .i64 k ∧ m ≤ 8192 ∧ wr.ownsRow w.heap.size 5 1 v m (bvs (flat rs k)) ∧ s = .int .u32 (extend 0 (flat rs k) : Nat) ∧ Below w.heap.size w wr) (fun _ _ i _ => n - (intOf i).toNat)
    case atStart => exact ⟨0, 0, by omega, rfl, by omega, World.ownsRow_nil _ _ _ _, rfl, HB.out⟩
    case round =>
      obtain ⟨k, m, hk, rfl, hm, hown, rfl, hbel⟩ := hrel
      obtain ⟨av, cv, rfl⟩ := own_form hown
      have HO := Lib.hid hown
      have HB2 := Lib.hid hbel
      clear hown hbel
      by_cases hlt : k < n
      · obtain ⟨b, off, u, rfl, hu, hcell⟩ := HL.out.at hlt
        obtain ⟨r, hrk, hsl⟩ := HR.out k u hu
        obtain ⟨ar, cr, rfl⟩ := hsl.form
        have hc2 := cell_later HB2.out hcell
        have hrb := hsl.bound
        have HF := Lib.hid (flat_succ rs k r hrk)
        have HS := Lib.hid hsl
        have HCELL := Lib.hid hcell
        clear hcell hu hrk hsl
        by_cases hbad : 4096 < r.length ∨ 4096 < m
        · have hbad2 : 4096 < (r.length : Int) ∨ 4096 < (m : Int) := by omega
          by_cases hb1 : 4096 < r.length
          · clear hbad hbad2
            go_wp2_with fail
            refine (works_any _).mono ?_
            rintro e w9 ⟨rfl, hb9⟩
            go_wp2_with fail
            go_ret
            exact ⟨rfl, HB2.out.trans (hb9.mono HB2.out.size)⟩
          · have hb2 : 4096 < m := by omega
            clear hbad hbad2
            go_wp2_with fail
            refine (works_any _).mono ?_
            rintro e w9 ⟨rfl, hb9⟩
            go_wp2_with fail
            go_ret
            exact ⟨rfl, HB2.out.trans (hb9.mono HB2.out.size)⟩
        · have hb1 : ¬ 4096 < r.length := by omega
          have hb2 : ¬ 4096 < m := by omega
          clear hbad
          go_wp2_with (at_builtin; refine wpL_append et23 rfl _ _ rfl HO.out rfl (HS.out.below HB2.out) rfl (bvs_one _) (by omega) (by simp [maxLen]; omega) HB2.out.size ?_; intro v2 w2 hown2 hg2; have hb2 := below_own HB2.out HO.out hg2 (Nat.le_refl _) HB2.out.size; have HO2 := Lib.hid hown2; have HB3 := Lib.hid hb2; have hc3 := cell_later hb2 HCELL.out; clear hown2 hg2 hb2; obtain ⟨a2, c2, rfl⟩ := own_form HO2.out)
          refine (crcExtend_any _ (extend_lt _ _) _ _ _ r _ (HS.out.below HB3.out)).mono ?_
          rintro e w3 ⟨rfl, hb3⟩
          rw [← extend_append, ← HF.out]
          have HO3 := Lib.hid (own_below HO2.out hb3)
          rw [← bvs_append, ← HF.out] at HO3
          have HB4 := Lib.hid (HB3.out.trans (hb3.mono HB3.out.size))
          clear hb3 hc3
          go_wp2_with fail
          refine (crcSum_any _ _ _ _ _ (Sl.ofOwn HO3.out)).mono ?_
          rintro e w4 ⟨rfl, hb4⟩
          have HO4 := Lib.hid (own_below HO3.out hb4)
          have HB5 := Lib.hid (HB4.out.trans (hb4.mono HB4.out.size))
          clear hb4
          go_wp2_with fail
          go_roundw
          case rel => exact ⟨k + 1, m + r.length, by omega, by go_num, by omega, HO4.out, rfl, HB5.out⟩
          case measure => simp [intOf]; omega
      · go_wp2_with fail
        refine (works_any _).mono ?_
        rintro e w9 ⟨rfl, hb9⟩
        go_wp2_with fail
        go_ret
        exact ⟨rfl, HB2.out.trans (hb9.mono HB2.out.size)⟩
end Go.Proofs.Ytepknjnkdjnihaa
