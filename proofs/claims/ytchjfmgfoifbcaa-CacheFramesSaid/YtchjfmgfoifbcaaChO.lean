/-
  Law 05's Vast and its things done. Conditions: the slices read.
-/
import Derived.Test.YtchjfmgfoifbcaaChR
import Derived.Test.YtchjfmgfoifbcaaGen
import Derived.Test.YtchjfmgfoifbcaaOpen
namespace Go.Proofs.Ytchjfmgfoifbcaa
open Go.RowKit
set_option linter.unusedVariables false
set_option linter.unusedSimpArgs false
set_option linter.unnecessarySimpa false

theorem wf_i64 {z : Int} (h : (Lit.int .i64 z).wf = true) : -9223372036854775808 ≤ z ∧ z ≤ 9223372036854775807 := by
  have e9 : IntKind.i64.min = -9223372036854775808 := by decide
  simp [Lit.wf, e9] at h
  omega
abbrev Opr := Int × Int × List UInt8 × List Int × Int
def VOp : World → List Value → Opr → Prop := VRec5 1 1 1 1 1 (VInt .i64) (VInt .i64) (VSl VByte 1) (VSl (VInt .i64) 1) (VInt .i64)
theorem opensOp : Opens Try.prog 37 5 VOp := opens_rec5 Try.underlying37 (by kernel_rfl) rfl rfl rfl rfl rfl rfl rfl rfl rfl rfl (opens_int Try.underlying3 (by kernel_rfl)) (opens_int Try.underlying3 (by kernel_rfl)) (opens_sl (opens_byte Try.underlying5 (by kernel_rfl)) (by decide) Try.underlying34 (by kernel_rfl)) (opens_sl (opens_int Try.underlying3 (by kernel_rfl)) (by decide) Try.underlying35 (by kernel_rfl)) (opens_int Try.underlying3 (by kernel_rfl))
theorem stabOp : Stab VOp := stab_rec5 (stab_int _) (stab_int _) (stab_sl stab_byte) (stab_sl (stab_int _)) (stab_int _)
structure OpIs (w : World) (K s : Int) (aB : Option Addr) (nB cB : Nat) (l : List UInt8) (aK : Option Addr) (nK cK : Nat) (keep : List Int) : Prop where
  sb : Sl w 1 (.slice aB nB cB) nB (bvs l)
  sk : Sl w 1 (.slice aK nK cK) nK (ints keep)
  hi : s ≤ 9223372036854775807
  wf : (Lit.int .i64 s).wf = true
theorem op_rec {w : World} {cs : List Value} {K s t : Int} {l : List UInt8} {keep : List Int} (h : VOp w cs (K, s, l, keep, t)) : ∃ aB cB aK cK, cs = [.int .i64 K, .int .i64 s, .slice aB l.length cB, .slice aK keep.length cK, .int .i64 t] ∧ OpIs w K s aB l.length cB l aK keep.length cK keep := by
  obtain ⟨c0, c1, c2, c3, c4, rfl, h0, h1, h2, h3, h4, ⟨rfl, v0⟩, ⟨rfl, v1⟩, ⟨x, rfl, v2⟩, ⟨y, rfl, v3⟩, ⟨rfl, v4⟩⟩ := h
  obtain ⟨aB, cB, rfl, _, _⟩ := v2.form
  obtain ⟨aK, cK, rfl, _, _⟩ := v3.form
  exact ⟨aB, cB, aK, cK, rfl, v2.bytes, v3.ints, (wf_i64 v1).2, v1⟩
theorem op_at {w : World} {a : Option Addr} {m c : Nat} {L : List Opr} (h : SlOf VOp 5 w (.slice a m c) L) (i : Nat) (hi : i < m) :
    ∃ b off aB nB cB l aK nK cK keep K s t, a = some ⟨b, off, none⟩ ∧ L[i]? = some (K, s, l, keep, t) ∧ nB = l.length ∧ nK = keep.length ∧ OpIs w K s aB nB cB l aK nK cK keep ∧
      w.cell? ⟨b, off + i * 5, none⟩ = some (.int .i64 K) ∧ w.cell? ⟨b, off + i * 5 + 1, none⟩ = some (.int .i64 s) ∧ w.cell? ⟨b, off + i * 5 + 2, none⟩ = some (.slice aB nB cB) ∧ w.cell? ⟨b, off + i * 5 + 3, none⟩ = some (.slice aK nK cK) ∧ w.cell? ⟨b, off + i * 5 + 4, none⟩ = some (.int .i64 t) := by
  have hm := h.len.1
  have hi2 : i < L.length := by omega
  obtain ⟨b, off, cs, ha, hcl, hV, hc⟩ := h.at i hi2
  have hr : ∃ K s l keep t, L[i] = (K, s, l, keep, t) := ⟨_, _, _, _, _, rfl⟩
  obtain ⟨K, s, l, keep, t, hq⟩ := hr
  rw [hq] at hV
  obtain ⟨aB, cB, aK, cK, rfl, hs⟩ := op_rec hV
  exact ⟨b, off, aB, _, cB, l, aK, _, cK, keep, K, s, t, ha, by rw [List.getElem?_eq_getElem hi2, hq], rfl, rfl, hs, by simpa using hc 0 (by decide), by simpa using hc 1 (by decide), by simpa using hc 2 (by decide), by simpa using hc 3 (by decide), by simpa using hc 4 (by decide)⟩
def FewO (L : List Opr) : Prop := L.length ≤ 120 ∧ ∀ (i : Nat) (K s : Int) (l : List UInt8) (keep : List Int) (t : Int), L[i]? = some (K, s, l, keep, t) → l.length ≤ 1024 ∧ keep.length ≤ 200
def VastPost (L : List Opr) (w : World) (e : Ending) (w' : World) : Prop := ∃ B, e = .returned (.bool B) ∧ Hid (B = false → FewO L) ∧ Below w.heap.size w w'
set_option maxHeartbeats 400000 in
theorem vast_any (a : Option Addr) (n c : Nat) (L : List Opr) (w : World) (hl : SlOf VOp 5 w (.slice a n c) L) :
    Calls Try.prog 8 #[.slice a n c] w (VastPost L w) := by
  have hn := hl.len
  have HN := Lib.hid hn.1
  have hn2 := hn.2
  clear hn
  by_cases h1 : 120 < n
  · have h1' : (120 : Int) < n := by omega
    go_enter Try.func8, Try.ntmps8
    go_wp2_with fail
    go_ret
    exact ⟨true, rfl, Lib.hid (fun h => by cases h), Below.refl _ _⟩
  have h1' : ¬ (120 : Int) < n := by omega
  go_enter Try.func8, Try.ntmps8
  go_wp2_with fail
  go_loopw [3] (fun v3 wr => ∃ k : Nat, k ≤ n ∧ v3 = .int .i64 k ∧ (∀ (i : Nat) (K s : Int) (l : List UInt8) (keep : List Int) (t : Int), i < k → L[i]? = some (K, s, l, keep, t) → l.length ≤ 1024 ∧ keep.length ≤ 200) ∧ Below w.heap.size w wr) (fun v3 _ => n - (intOf v3).toNat)
  case atStart => exact ⟨0, Nat.zero_le _, rfl, (fun i K s l keep t h => by omega), Below.refl _ _⟩
  case round =>
    obtain ⟨k, hk, rfl, ha, hb⟩ := hrel
    have HA := Lib.hid ha
    clear ha
    by_cases hkn : k = n
    · subst hkn
      go_wp2_with fail
      go_ret
      refine ⟨false, rfl, Lib.hid fun _ => ⟨by rw [← HN.out]; omega, fun i K s l keep t h => HA.out i K s l keep t ?_ h⟩, hb⟩
      have h8 := (List.getElem?_eq_some_iff.1 h).1
      have h9 := HN.out
      omega
    · have hlt : k < n := by omega
      have hlt' : (k : Int) < n := by omega
      obtain ⟨b, off, aB, nB, cB, l, aK, nK, cK, keep, K, s, t, rfl, hri, hrm, hrk, hop, hc0, hc1, hc2, hc3, hc4⟩ := op_at (hl.below stabOp hb) k hlt
      have HRI := Lib.hid hri
      have HRM := Lib.hid hrm
      have HRK := Lib.hid hrk
      clear hri hrm hrk hop hc0 hc1 hc4
      by_cases h5 : 1024 < nB
      · have h5' : (1024 : Int) < nB := by omega
        go_wp2_with fail
        go_ret
        exact ⟨true, rfl, Lib.hid (fun h => by cases h), hb⟩
      · have h5' : ¬ (1024 : Int) < nB := by omega
        by_cases h6 : 200 < nK
        · have h6' : (200 : Int) < nK := by omega
          go_wp2_with fail
          go_ret
          exact ⟨true, rfl, Lib.hid (fun h => by cases h), hb⟩
        · have h6' : ¬ (200 : Int) < nK := by omega
          go_wp2_with fail
          refine ⟨⟨k + 1, by omega, by go_num, fun i K' s' l' keep' t' hi h => ?_, hb⟩, by simp [intOf]; omega⟩
          by_cases hik : i < k
          · exact HA.out i K' s' l' keep' t' hik h
          · obtain rfl : i = k := by omega
            rw [HRI.out] at h
            cases h
            have := HRM.out
            have := HRK.out
            omega
theorem okinds (K : Int) : K = 0 ∨ K = 1 ∨ K = 2 ∨ K = 3 ∨ K = 4 ∨ K = 5 ∨ K = 6 ∨ K = 7 ∨ K = 8 ∨ ((K == 0) = false ∧ (K == 1) = false ∧ (K == 2) = false ∧ (K == 3) = false ∧ (K == 4) = false ∧ (K == 5) = false ∧ (K == 6) = false ∧ (K == 7) = false ∧ (K == 8) = false ∧ ¬ K = 0 ∧ ¬ K = 1 ∧ ¬ K = 2 ∧ ¬ K = 3 ∧ ¬ K = 4 ∧ ¬ K = 5 ∧ ¬ K = 6 ∧ ¬ K = 7 ∧ ¬ K = 8) := by
  by_cases k0 : K = 0
  · exact .inl k0
  by_cases k1 : K = 1
  · exact .inr (.inl k1)
  by_cases k2 : K = 2
  · exact .inr (.inr (.inl k2))
  by_cases k3 : K = 3
  · exact .inr (.inr (.inr (.inl k3)))
  by_cases k4 : K = 4
  · exact .inr (.inr (.inr (.inr (.inl k4))))
  by_cases k5 : K = 5
  · exact .inr (.inr (.inr (.inr (.inr (.inl k5)))))
  by_cases k6 : K = 6
  · exact .inr (.inr (.inr (.inr (.inr (.inr (.inl k6))))))
  by_cases k7 : K = 7
  · exact .inr (.inr (.inr (.inr (.inr (.inr (.inr (.inl k7)))))))
  by_cases k8 : K = 8
  · exact .inr (.inr (.inr (.inr (.inr (.inr (.inr (.inr (.inl k8))))))))
  exact .inr (.inr (.inr (.inr (.inr (.inr (.inr (.inr (.inr ⟨by simp [k0], by simp [k1], by simp [k2], by simp [k3], by simp [k4], by simp [k5], by simp [k6], by simp [k7], by simp [k8], k0, k1, k2, k3, k4, k5, k6, k7, k8⟩))))))))
end Go.Proofs.Ytchjfmgfoifbcaa
