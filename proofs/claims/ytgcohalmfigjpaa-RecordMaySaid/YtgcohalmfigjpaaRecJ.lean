/-
  Pieces of nine bytes, walked: slices.Chunk.
-/
import Derived.Test.YtgcohalmfigjpaaRecB
import Derived.Test.YtgcohalmfigjpaaRange
import Derived.Test.YtgcohalmfigjpaaRound
import Derived.Test.YtgcohalmfigjpaaB
import Derived.Sort.QuietIn
namespace Go.Proofs.Ytgcohalmfigjpaa
open Go.RowKit Go.Shelf
attribute [local go_sem] Oper.semAt_some
set_option linter.unusedVariables false
set_option linter.unusedSimpArgs false

/-- the k-th piece -/
def piece (p : List UInt8) (k : Nat) : List UInt8 := (p.drop (9 * k)).take 9
theorem chunk_any (a : Option Addr) (n c : Nat) (w : World) : Calls Try.prog 32 #[.slice a n c, .int .i64 9] w fun e w' =>
    e = .returned (.func (.func 44) #[] #[.pointer (some ⟨w.heap.size, 0, none⟩), .pointer (some ⟨w.heap.size + 1, 0, none⟩)]) ∧ (w.alloc (.cells #[.slice a n c] 28)).alloc (.cells #[.int .i64 9] 3) = w' := by
  go_enter Try.func32, Try.ntmps32
  go_wp2
  go_ret
  exact ⟨rfl, rfl⟩

set_option maxHeartbeats 1600000 in
theorem chunk1_in (n : Nat) (hn : 1 ≤ n) (l bS bN : Nat) (a : Option Addr) (m c : Nat) (p : List UInt8) (w0 : World) (hp : Sl w0 1 (.slice a m c) m (bvs p)) (hsz : m ≤ 1073741824) (J : Nat → World → Prop)
    (hJ : ∀ k W, J k W → Boxed W bS 28 (.slice a m c) ∧ Boxed W bN 3 (.int .i64 9) ∧ Below w0.heap.size w0 W) (hJd : ∀ k W i, J k W → J k (W.drewN i))
    (hY : ∀ k W av cv N, 9 * k < m → N = (piece p k).length → 0 < N → J k W → Sl w0 1 (.slice av N cv) N (bvs (piece p k)) → YieldAt Fence.wide (n - 1) Try.prog l #[.slice av N cv] W fun e W' => e = .returned (.bool true) ∧ J (k + 1) W')
    (W : World) (h0 : J 0 W) :
    CallsIn Fence.wide n Try.prog 44 #[.func (.yield l) #[] #[], .pointer (some ⟨bS, 0, none⟩), .pointer (some ⟨bN, 0, none⟩)] W fun e W' => (∃ v, e = .returned v) ∧ J ((m + 8) / 9) W' := by
  refine callsIn_of_wp Try.func44 rfl trivial ?_ rfl
  simp only [Try.ntmps44, List.size_toArray, List.length_cons, List.length_nil, Nat.reduceAdd, Nat.reduceSub, Array.replicate_succ, Array.replicate_zero, List.push_toArray, List.append_toArray, List.nil_append, List.cons_append]
  have hlen := hp.len
  have HM := Lib.hid hlen.1
  have hmc := hlen.2.2
  clear hlen
  gi_wp2
  gi_loopw [4, 5, 6, 7, 8, 9, 10, 11, 12, 13, 14, 15, 16, 17, 18, 19, 20, 21, 22, 23, 24, 25, 26, 27, 28, 29, 30] (fun v4 v5 v6 v7 v8 v9 v10 v11 v12 v13 v14 v15 v16 v17 v18 v19 v20 v21 v22 v23 v24 v25 v26 v27 v28 v29 v30 wr => ∃ k q : Nat, q < m + 9 ∧ v4 = .int .i64 q ∧ J k wr ∧ Hid (q = 9 * k)) (fun v4 _ _ _ _ _ _ _ _ _ _ _ _ _ _ _ _ _ _ _ _ _ _ _ _ _ _ _ => m + 9 - (intOf v4).toNat)
  case atStart => exact ⟨0, 0, by omega, rfl, h0, Lib.hid rfl⟩
  case round =>
    obtain ⟨k, q, hq, rfl, hJk, HQ⟩ := hrel
    have hc1 := (hJ k wr hJk).1.cell
    have hc2 := (hJ k wr hJk).2.1.cell
    by_cases hqm : m ≤ q
    · have hqi : ¬ (q : Int) < m := by omega
      gi_wp2
      go_end0
      have e : (m + 8) / 9 = k := by have := HQ.out; omega
      rw [e]
      exact ⟨⟨_, rfl⟩, hJk⟩
    · have hqi : (q : Int) < m := by omega
      have hqc : q < c := by omega
      have hq1 : q < m := by omega
      obtain ⟨b, off, u, rfl, _⟩ := hp.at (k := q) (by omega)
      obtain ⟨N, hN⟩ : ∃ N, N = (piece p k).length := ⟨_, rfl⟩
      have hN1 : N = min 9 (m - q) := by
        rw [hN, piece, List.length_take, List.length_drop, HM.out, ← HQ.out]
      have hN0 : 0 < N := by omega
      have hNm : q + N ≤ m := by omega
      have hs : Sl w0 1 (.slice (some ⟨b, off + q, none⟩) N N) N (bvs (piece p k)) := by
        have h := hp.cut (l := q) (h := q + N) (m := q + N) (by omega) (by omega) (by omega) (by omega)
        rw [show q + N - q = N by omega, bvs_drop, bvs_take] at h
        unfold cutAddr at h
        rw [if_neg (by omega), Option.map_some, add_eq] at h
        have e : (p.drop q).take N = piece p k := by
          rw [piece, ← HQ.out, hN1]
          by_cases h9 : 9 ≤ m - q
          · rw [Nat.min_eq_left h9]
          · rw [Nat.min_eq_right (by omega), List.take_of_length_le (by rw [List.length_drop, HM.out]; exact Nat.le_refl _), List.take_of_length_le (by rw [List.length_drop, HM.out]; omega)]
        rw [e] at h
        exact h
      have HQ2 : Hid (q + 9 = 9 * (k + 1)) := by show _ = _; have := HQ.out; omega
      have hq9 : 9 * k < m := by have := HQ.out; omega
      have hmin : (if ((m - q : Nat) : Int) < 9 then ((m - q : Nat) : Int) else 9) = (N : Int) := by split <;> omega
      have HMIN := Lib.hid hmin
      clear hmin hN1
      gi_wp2
      gi_quiet (fail)
      rename_i nq
      rw [HMIN.out]
      have hJq := hJd k wr nq hJk
      have hc1 := (hJ k _ hJq).1.cell
      have hc2 := (hJ k _ hJq).2.1.cell
      obtain ⟨fn, tmps, assign, body, hy, hR⟩ := hY k (wr.drewN nq) (some ⟨b, off + q, none⟩) N N hq9 hN hN0 hJq hs
      generalize wr.drewN nq = w4 at hJq hc1 hc2 hy hR ⊢
      clear hN hs
      have hqN : q + N ≤ c := by omega
      have e2 : ¬ q + N = q := by omega
      gi_wp2
      refine hR.mono ?_
      rintro e W3 ⟨rfl, hJ3⟩
      have hc3 := (hJ _ _ hJ3).2.1.cell
      gi_wp2
      exact ⟨⟨k + 1, q + 9, by omega, by go_num, hJ3, HQ2⟩, by simp [intOf]; omega⟩
end Go.Proofs.Ytgcohalmfigjpaa
