/-
  slots' each and read: the records of a page. Conditions: the slice reads as bytes.
-/
import Derived.Test.YtafigfgcgnnbnaaSlotB
import Derived.Test.YtafigfgcgnnbnaaRange
import Derived.Sort.QuietIn
namespace Go.Proofs.Ytafigfgcgnnbnaa
open Go.RowKit Go.Shelf
attribute [local go_sem] Oper.semAt_some
set_option linter.unusedVariables false
set_option linter.unusedSimpArgs false

def eachGo (p : List UInt8) : List UInt8 → Nat → List (List UInt8)
  | [], _ => []
  | n :: ns, at_ => if p.length - at_ < n.toNat then [] else (p.drop at_).take n.toNat :: eachGo p ns (at_ + n.toNat)
def eachL : List UInt8 → List (List UInt8)
  | [] => []
  | b :: r => if (b :: r).length ≤ b.toNat then [] else eachGo (b :: r) (r.take b.toNat) (1 + b.toNat)

theorem each_any (a : Option Addr) (n c : Nat) (w : World) : Calls Try.prog 38 #[.slice a n c] w fun e w' =>
    e = .returned (.func (.func 43) #[] #[.pointer (some ⟨w.heap.size, 0, none⟩)]) ∧ w.alloc (.cells #[.slice a n c] 22) = w' := by
  go_enter Try.func38, Try.ntmps38
  go_wp2
  go_ret
  exact ⟨rfl, rfl⟩

set_option maxHeartbeats 1600000 in
theorem each1_in (n : Nat) (hn : 1 ≤ n) (l bS : Nat) (a : Option Addr) (m c : Nat) (p : List UInt8) (w0 : World) (hp : Sl w0 1 (.slice a m c) m (bvs p)) (hsz : m ≤ 1073741824) (J : Nat → World → Prop)
    (hJ : ∀ k W, J k W → Boxed W bS 22 (.slice a m c) ∧ Below w0.heap.size w0 W) (hJd : ∀ k W i, J k W → J k (W.drewN i))
    (hY : ∀ k W r av cv, (eachL p)[k]? = some r → J k W → Sl w0 1 (.slice av r.length cv) r.length (bvs r) → YieldAt Fence.wide (n - 1) Try.prog l #[.int .i64 (k : Int), .slice av r.length cv] W fun e W' => e = .returned (.bool true) ∧ J (k + 1) W')
    (W : World) (h0 : J 0 W) :
    CallsIn Fence.wide n Try.prog 43 #[.func (.yield l) #[] #[], .pointer (some ⟨bS, 0, none⟩)] W fun e W' => (∃ v, e = .returned v) ∧ J (eachL p).length W' := by
  refine callsIn_of_wp Try.func43 rfl trivial ?_ rfl
  simp only [Try.ntmps43, List.size_toArray, List.length_cons, List.length_nil, Nat.reduceAdd, Nat.reduceSub, Array.replicate_succ, Array.replicate_zero, List.push_toArray, List.append_toArray, List.nil_append, List.cons_append]
  have hc0 := (hJ 0 W h0).1.cell
  have hp1 := hp.below (hJ 0 W h0).2
  have hlen := hp.len
  rcases p with _ | ⟨b, r⟩
  · obtain rfl : m = 0 := by simpa using hlen.1.symm
    clear hlen
    gi_wp2
    gi_quiet (fail)
    gi_wp2
    refine bodyPost_ret (results_none rfl _ _ _) rfl ?_
    exact ⟨⟨_, rfl⟩, hJd _ _ _ h0⟩
  · obtain ⟨b1, o1, rfl, hb⟩ := hp1.byte (k := 0) (by simp at hlen; omega)
    simp only [Nat.add_zero, List.getD_cons_zero] at hb
    obtain ⟨B, hB⟩ : ∃ B : Nat, B = b.toNat := ⟨_, rfl⟩
    have hB2 : B < 256 := by rw [hB]; exact b.toNat_lt
    rw [← hB] at hb
    have HB := Lib.hid hB
    have HM := Lib.hid hlen.1
    have hmc := hlen.2.2
    have hm0 : (m : Int) ≠ 0 := by simp at hlen; omega
    have hm1 : ((m : Int) == 0) = false := by rw [beq_eq_false_iff_ne]; exact hm0
    clear hlen hB
    by_cases hmB : m ≤ B
    · have e : Hid (eachL (b :: r) = []) := by show _ = _; rw [eachL, if_pos (by rw [HM.out, ← HB.out]; exact hmB)]
      rw [e.out]
      gi_wp2
      gi_quiet (fail)
      gi_wp2
      refine bodyPost_ret (results_none rfl _ _ _) rfl ?_
      exact ⟨⟨_, rfl⟩, hJd _ _ _ h0⟩
    · have hd : decide (m ≤ B) = false := by simp; omega
      gi_wp2
      gi_quiet (fail)
      have hBm : B + 1 ≤ m := by omega
      have hE : Hid (eachL (b :: r) = eachGo (b :: r) (r.take B) (1 + B)) := by
        show _ = _
        rw [eachL, if_neg (by rw [HM.out, ← HB.out]; exact hmB), ← HB.out]
      have hB1 : (1 : Int) ≤ 1 + (B : Int) := by omega
      by_cases hc1 : c = 1
      · subst hc1
        obtain rfl : B = 0 := by omega
        have hE0 : Hid ((eachL (b :: r)).length = 0) := by show _ = _; rw [hE.out]; simp [eachGo]
        gi_wp2
        gi_loopw [3, 4, 5, 27] (fun v3 v4 v5 v27 wr => v27 = .int .i64 0 ∧ J 0 wr) (fun _ _ _ _ _ => 0)
        case atStart => exact ⟨rfl, hJd _ _ _ h0⟩
        case round =>
          obtain ⟨rfl, hJ0⟩ := hrel
          gi_wp2
          go_end0
          rw [hE0.out]
          exact ⟨⟨_, rfl⟩, hJ0⟩
      · have hcc : 1 + B ≤ c := by omega
        have hs1 : Sl w0 1 (.slice (some ⟨b1, o1 + 1, none⟩) B (c - 1)) B (bvs (r.take B)) := by
          have h := hp.cut (l := 1) (h := 1 + B) (m := c) (by omega) (by omega) (by omega) (Nat.le_refl _)
          rw [show 1 + B - 1 = B by omega, bvs_drop, bvs_take] at h
          unfold cutAddr at h
          rw [if_neg hc1, Option.map_some, add_eq] at h
          exact h
        gi_wp2
        rw [Nat.add_sub_cancel_left]
        gi_loopw [3, 4, 5, 27] (fun v3 v4 v5 v27 wr => ∃ k q : Nat, k ≤ B ∧ q ≤ m ∧ v27 = .int .i64 k ∧ v3 = .int .i64 q ∧ J k wr ∧ (∃ pre, pre.length = k ∧ eachL (b :: r) = pre ++ eachGo (b :: r) ((r.take B).drop k) q)) (fun _ _ _ v27 _ => B - (intOf v27).toNat)
        case atStart => exact ⟨0, 1 + B, Nat.zero_le _, by omega, rfl, rfl, hJd _ _ _ h0, [], rfl, hE.out⟩
        case round =>
          obtain ⟨k, q, hk, hq, rfl, rfl, hJk, pre, hpre, heq⟩ := hrel
          have hc2 := (hJ k wr hJk).1.cell
          by_cases hkB : k = B
          · subst hkB
            gi_wp2
            go_end0
            have e : (eachL (b :: r)).length = k := by
              rw [heq, List.drop_eq_nil_of_le (by simp; omega)]; simp [eachGo, hpre]
            rw [e]
            exact ⟨⟨_, rfl⟩, hJk⟩
          · have hlt : k < B := by omega
            have hlt' : (k : Int) < B := by omega
            obtain ⟨b3, o3, he3, hb3⟩ := (hs1.below (hJ k wr hJk).2).byte hlt
            cases he3
            obtain ⟨N, hN⟩ : ∃ N : Nat, N = ((r.take B).getD k 0).toNat := ⟨_, rfl⟩
            have hN2 : N < 256 := by rw [hN]; exact UInt8.toNat_lt _
            rw [← hN] at hb3
            have hdrop : (r.take B).drop k = (r.take B).getD k 0 :: (r.take B).drop (k + 1) := by
              have hl := hs1.len.1
              rw [List.drop_eq_getElem_cons (by omega), List.getD_eq_getElem?_getD, List.getElem?_eq_getElem (by omega)]; rfl
            rw [hdrop] at heq
            unfold eachGo at heq
            rw [← hN, HM.out] at heq
            have hqm : ((m - q : Nat) : Int) = (m : Int) - q := by omega
            by_cases hstop : m - q < N
            · rw [if_pos hstop, List.append_nil] at heq
              have hst : (m : Int) - q < N := by omega
              have HE := Lib.hid heq
              clear heq hdrop hN
              gi_wp2
              refine ⟨fun _ h => (by cases h), ?_⟩
              gi_wp2
              try simp only [Exit.inBlock, Exit.then]
              refine bodyPost_ret (results_none rfl _ _ _) rfl ?_
              rw [HE.out, hpre]
              exact ⟨⟨_, rfl⟩, hJk⟩
            · rw [if_neg hstop] at heq
              have hst : ¬ (m : Int) - q < N := by omega
              have hqc : q ≤ c := by omega
              obtain ⟨rr, hrr⟩ : ∃ rr, rr = ((b :: r).drop q).take N := ⟨_, rfl⟩
              have hrl : rr.length = N := by rw [hrr]; simp only [List.length_take, List.length_drop, HM.out]; omega
              have hsr : Sl w0 1 (.slice (if c = q then some ⟨b1, o1, none⟩ else some ⟨b1, o1 + q, none⟩) N (c - q)) N (bvs rr) := by
                have h := hp.cut (l := q) (h := q + N) (m := c) (by omega) (by omega) (by omega) (Nat.le_refl _)
                rw [show q + N - q = N by omega, bvs_drop, bvs_take, ← hrr] at h
                unfold cutAddr at h
                rw [Option.map_some, add_eq] at h
                exact h
              have hget : (eachL (b :: r))[k]? = some rr := by
                rw [heq, List.getElem?_append_right (by omega), hpre, Nat.sub_self, List.getElem?_cons_zero, hrr]
              have hy0 := hY k wr rr (if c = q then some ⟨b1, o1, none⟩ else some ⟨b1, o1 + q, none⟩) (c - q) hget hJk (by rw [hrl]; exact hsr)
              rw [hrl] at hy0
              obtain ⟨fn, tmps, assign, body, hy, hR⟩ := hy0
              have hpq : Hid (eachL (b :: r) = (pre ++ [rr]) ++ eachGo (b :: r) ((r.take B).drop (k + 1)) (q + N)) := by
                show _ = _
                rw [heq, hrr, List.append_assoc]; rfl
              have hqn : q + N ≤ m := by omega
              clear heq hdrop hN hrr hget hrl hsr
              by_cases hcq : c = q
              · subst hcq
                rw [if_pos rfl, Nat.sub_self] at hy
                gi_wp2
                refine hR.mono ?_
                rintro e W3 ⟨rfl, hJ3⟩
                gi_wp2
                exact ⟨⟨k + 1, c + N, by omega, hqn, by go_num, by go_num, hJ3, pre ++ [rr], by simp [hpre], hpq.out⟩, by simp [intOf]; omega⟩
              · rw [if_neg hcq] at hy
                gi_wp2
                refine hR.mono ?_
                rintro e W3 ⟨rfl, hJ3⟩
                gi_wp2
                exact ⟨⟨k + 1, q + N, by omega, hqn, by go_num, by go_num, hJ3, pre ++ [rr], by simp [hpre], hpq.out⟩, by simp [intOf]; omega⟩
end Go.Proofs.Ytafigfgcgnnbnaa
