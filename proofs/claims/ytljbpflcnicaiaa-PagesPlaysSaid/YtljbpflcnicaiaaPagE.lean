/-
  Part, the program's and the document's, walked. Conditions: a map reads as one.
-/
import Derived.Test.YtljbpflcnicaiaaPagD
namespace Go.Proofs.Ytljbpflcnicaiaa
open Go.RowKit
set_option linter.unusedVariables false
set_option linter.unusedSimpArgs false

def trimZ (l : List Nat) : List Nat := (l.reverse.dropWhile (· == 0)).reverse
theorem trimZ_nil : trimZ [] = [] := rfl
theorem trimZ_zero (l : List Nat) : trimZ (l ++ [0]) = trimZ l := by simp [trimZ]
theorem trimZ_snoc (l : List Nat) (x : Nat) (h : x ≠ 0) : trimZ (l ++ [x]) = l ++ [x] := by simp [trimZ, h]
theorem trimZ_le (l : List Nat) : (trimZ l).length ≤ l.length := by
  unfold trimZ
  rw [List.length_reverse]
  exact Nat.le_trans (List.dropWhile_sublist _).length_le (by simp)
def bytes2 (l : List Nat) : List UInt8 := l.flatMap fun s => digs s 2
theorem bytes2_snoc (l : List Nat) (s : Nat) : bytes2 (l ++ [s]) = bytes2 l ++ digs s 2 := by simp [bytes2]
theorem bytes2_len (l : List Nat) : (bytes2 l).length = 2 * l.length := by
  induction l with
  | nil => rfl
  | cons s l ih => 
    unfold bytes2 at ih ⊢
    rw [List.flatMap_cons, List.length_append, digs_length, ih, List.length_cons]; omega
theorem digs2 (s : Nat) : digs s 2 = [UInt8.ofNat (s % 256), UInt8.ofNat (s / 256 % 256)] := by
  simp [digs, List.range_succ]
theorem bytes2_take (l : List Nat) (k : Nat) : (bytes2 l).take (2 * k) = bytes2 (l.take k) := by
  induction l generalizing k with
  | nil => simp [bytes2]
  | cons s l ih =>
    cases k with
    | zero => simp [bytes2]
    | succ k =>
      have := ih k
      unfold bytes2 at this ⊢
      rw [List.flatMap_cons, digs2, List.take_succ_cons, List.flatMap_cons, digs2, show 2 * (k + 1) = (2 * k) + 1 + 1 by omega]
      simp [this]
theorem bytes2_get (l : List Nat) (j : Nat) (h : j < l.length) : (bytes2 l).getD (2 * j) 0 = UInt8.ofNat (l.getD j 0 % 256) ∧ (bytes2 l).getD (2 * j + 1) 0 = UInt8.ofNat (l.getD j 0 / 256 % 256) := by
  induction l generalizing j with
  | nil => simp at h
  | cons s l ih =>
    unfold bytes2 at ih ⊢
    rw [List.flatMap_cons, digs2]
    cases j with
    | zero => exact ⟨rfl, rfl⟩
    | succ j =>
      have := ih j (by simpa using h)
      rw [show 2 * (j + 1) = (2 * j) + 1 + 1 by omega]
      exact this
def partB (S : List Nat) (i : Int) : List UInt8 := if 0 ≤ i ∧ i < 9 then bytes2 (trimZ (partL S i.toNat)) else []
theorem part_cases (S : List Nat) (i : Int) : ((i < 0 ∨ 9 ≤ i) ∧ partB S i = []) ∨ ∃ k : Nat, i = k ∧ k < 9 ∧ partB S i = bytes2 (trimZ (partL S k)) := by
  by_cases h : i < 0 ∨ 9 ≤ i
  · left; exact ⟨h, by rw [partB, if_neg (by omega)]⟩
  · right; exact ⟨i.toNat, by omega, by omega, by rw [partB, if_pos (by omega)]⟩
theorem nats_snoc (l : List Nat) (k : Nat) (h : k < l.length) : l.take (k + 1) = l.take k ++ [l.getD k 0] := by
  rw [List.take_succ_eq_append_getElem h, List.getD_eq_getElem?_getD, List.getElem?_eq_getElem h]; rfl
theorem secs_at {w : World} {k : IntKind} {b O P C j : Nat} {L : List Nat} (h : Sl w 1 (.slice (some ⟨b, O, none⟩) P C) P (secs k L)) (hj : j < P) : w.cell? ⟨b, O + j, none⟩ = some (.int k ((L.getD j 0 : Nat) : Int)) := by
  have hl := h.1
  rw [secs_len] at hl
  obtain ⟨b', off', h1, h2, h3⟩ := h.addr (by omega)
  cases h1
  exact h3 j _ (secs_get k L j (by omega))
theorem part_lt {S : List Nat} (h : Good S) (i j : Nat) : (partL S i).getD j 0 < 65536 := by
  rw [partL, List.getD_eq_getElem?_getD, List.getElem?_take]
  split
  · rw [List.getElem?_drop, ← List.getD_eq_getElem?_getD]; exact h.2 _
  · exact Nat.zero_lt_succ _

set_option maxHeartbeats 2000000 in
theorem part_p (b : Nat) (S : List Nat) (i : Int) (w : World) (h : PM w b S) (Q : List UInt8) (hQ : Hid (Q = partB S i)) :
    Calls Try.prog 20 #[.pointer (some ⟨b, 0, none⟩), .int .i64 i] w fun e w' => ∃ v, e = .returned v ∧ Own w' w.heap.size 1 v Q.length (bvs Q) ∧ Below w.heap.size w w' := by
  rcases part_cases S i with ⟨h1, h2⟩ | ⟨k, rfl, hk, h2⟩
  · obtain rfl : Q = [] := hQ.out.trans h2
    clear h2 hQ
    go_enter Try.func20, Try.ntmps20
    go_wp2_with fail
    refine (part_bad b i w h1).mono ?_
    rintro e w' ⟨rfl, rfl⟩
    go_wp2_with fail
    go_loop [5] (fun v5 => v5 = .slice none 0 0) (fun _ => 0)
    case atStart => rfl
    case round =>
      obtain rfl := hrel
      go_wp2_with fail
      go_loop [6, 8, 31] (fun v6 v8 v31 => v6 = .slice none 0 0 ∧ v31 = .int .i64 0) (fun _ _ _ => 0)
      case atStart => exact ⟨rfl, rfl⟩
      case round =>
        obtain ⟨rfl, rfl⟩ := hrel
        go_wp2_with fail
        go_ret
        exact ⟨_, rfl, Own.nil _ _ _, Below.refl _ _⟩
  · obtain ⟨P, hP⟩ : ∃ P, P = partN k := ⟨_, rfl⟩
    obtain ⟨O, hO⟩ : ∃ O, O = 124 * k := ⟨_, rfl⟩
    obtain ⟨C, hC⟩ : ∃ C, C = 1024 - 124 * k := ⟨_, rfl⟩
    obtain ⟨L, hL⟩ : ∃ L, L = partL S k := ⟨_, rfl⟩
    have hP2 := partN_le k
    have hO2 := part_end k hk
    have hs := part_row h.1 h.2 k hk
    have HL : Hid (L.length = P) := by show _ = _; rw [hL, hP]; exact part_len h.2 k hk
    have HV : Hid (∀ j, L.getD j 0 < 65536) := fun j => by rw [hL]; exact part_lt h.2 k j
    have HQ : Hid (Q = bytes2 (trimZ L)) := by rw [hL]; exact hQ.out.trans h2
    rw [← hL, ← hC, ← hP, ← hO] at hs
    rw [← hP] at hP2 hO2
    rw [← hO] at hO2
    have hPC : P ≤ C := by omega
    have hC2 : C ≤ 1024 := by omega
    have HP := Lib.hid hP
    have HO := Lib.hid hO
    have HC := Lib.hid hC
    clear hP hO hC h2 hL hQ
    go_enter Try.func20, Try.ntmps20
    go_wp2_with fail
    refine (part_ok b k w hk).mono ?_
    rintro e w' ⟨rfl, rfl⟩
    rw [← HC.out, ← HO.out, ← HP.out]
    go_wp2_with fail
    go_loop [5] (fun v5 => ∃ t : Nat, t ≤ P ∧ v5 = .slice (some ⟨b, O, none⟩) t C ∧ trimZ L = trimZ (L.take t)) (fun v5 => match v5 with | .slice _ t _ => t | _ => 0)
    case atStart => exact ⟨P, Nat.le_refl _, rfl, by rw [List.take_of_length_le (by rw [HL.out]; exact Nat.le_refl _)]⟩
    case round =>
      obtain ⟨t, ht, rfl, htr⟩ := hrel
      cases t with
      | zero =>
        have HTT : Hid (trimZ L = L.take 0) := by show _ = _; rw [htr]; rfl
        clear htr
        go_wp2_with fail
        go_loopw [6, 8, 31] (fun v6 v8 v31 wr => ∃ q N : Nat, q ≤ 0 ∧ v31 = .int .i64 q ∧ N ≤ 248 ∧ Own wr w.heap.size 1 v6 N (bvs (bytes2 (L.take q))) ∧ Below w.heap.size w wr) (fun _ _ v31 _ => 0 - (intOf v31).toNat)
        case atStart => exact ⟨0, 0, Nat.zero_le _, rfl, Nat.zero_le _, by simpa [bytes2, bvs] using Own.nil w w.heap.size 1, Below.refl _ _⟩
        case' round =>
          obtain ⟨q, N, hq, rfl, hN, ho, hb⟩ := hrel
          obtain ⟨a6, c6, rfl⟩ := ho.form
        obtain rfl : q = 0 := by omega
        go_wp2_with fail
        go_ret
        rw [HQ.out, HTT.out, ho.len.1]
        exact ⟨_, rfl, ho, hb⟩
      | succ t =>
        have htl := nats_snoc L t (by rw [HL.out]; omega)
        have hc := secs_at hs (show t < P by omega)
        obtain ⟨s, hs0⟩ : ∃ s, s = L.getD t 0 := ⟨_, rfl⟩
        rw [← hs0] at hc htl
        clear hs0
        by_cases h0 : s = 0
        · subst h0
          rw [htl, trimZ_zero] at htr
          have HTR := Lib.hid htr
          clear htr htl
          go_wp2_with fail
          exact ⟨⟨t, by omega, rfl, HTR.out⟩, by simp⟩
        · have HTT : Hid (trimZ L = L.take (t + 1)) := by show _ = _; rw [htr, htl, trimZ_snoc _ _ h0]
          have h0' : ((s : Int) == 0) = false := by rw [beq_eq_false_iff_ne]; omega
          clear htr htl
          go_wp2_with fail
          go_loopw [6, 8, 31] (fun v6 v8 v31 wr => ∃ q N : Nat, q ≤ (t + 1) ∧ v31 = .int .i64 q ∧ N ≤ 248 ∧ Own wr w.heap.size 1 v6 N (bvs (bytes2 (L.take q))) ∧ Below w.heap.size w wr) (fun _ _ v31 _ => (t + 1) - (intOf v31).toNat)
          case atStart => exact ⟨0, 0, Nat.zero_le _, rfl, Nat.zero_le _, by simpa [bytes2, bvs] using Own.nil w w.heap.size 1, Below.refl _ _⟩
          case' round =>
            obtain ⟨q, N, hq, rfl, hN, ho, hb⟩ := hrel
            obtain ⟨a6, c6, rfl⟩ := ho.form
          by_cases hqk : q = t + 1
          · subst hqk
            go_wp2_with fail
            go_ret
            rw [HQ.out, HTT.out, ho.len.1]
            exact ⟨_, rfl, ho, hb⟩
          · have hlt : q < (t + 1) := by omega
            have hlt' : (q : Int) < (((t + 1) : Nat) : Int) := by omega
            have hc3 := secs_at (hs.below hb) (show q < P by omega)
            have hv := HV.out q
            have HT3 : Hid (L.take (q + 1) = L.take q ++ [L.getD q 0]) := nats_snoc L q (by rw [HL.out]; omega)
            obtain ⟨v, hv0⟩ : ∃ v, v = L.getD q 0 := ⟨_, rfl⟩
            rw [← hv0] at hc3 hv HT3
            have hp := put_any a6 N c6 (bytes2 (L.take q)) wr v 2 ho.sl (by omega) (by omega)
            rw [show putL (bytes2 (L.take q)) v 2 = bytes2 (L.take q ++ [v]) by rw [bytes2_snoc]; rfl, ← HT3.out] at hp
            have HP9 := Lib.hid hp
            have hlen : Hid ((bytes2 (L.take (q + 1))).length = 2 * (q + 1)) := by show _ = _; rw [bytes2_len, List.length_take, HL.out]; omega
            clear hp hv0
            go_wp2_with fail
            refine HP9.out.mono ?_
            rintro e w2 ⟨v6, rfl, ho2, hb2⟩
            obtain ⟨a7, c7, rfl⟩ := ho2.form
            rw [hlen.out] at ho2 ⊢
            go_wp2_with fail
            exact ⟨⟨q + 1, 2 * (q + 1), by omega, by go_num, by omega, ho2.mono hb.size, hb.trans (hb2.mono hb.size)⟩, by simp [intOf]; omega⟩
end Go.Proofs.Ytljbpflcnicaiaa
