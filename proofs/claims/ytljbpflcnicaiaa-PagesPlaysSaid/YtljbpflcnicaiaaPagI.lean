/-
  Turned, the program's and the document's, walked. Conditions: a map reads as one.
-/
import Derived.Test.YtljbpflcnicaiaaPagH
namespace Go.Proofs.Ytljbpflcnicaiaa
open Go.RowKit
set_option linter.unusedVariables false
set_option linter.unusedSimpArgs false

def sel (P : Nat → Bool) (y : Nat) : List Int := ((List.range y).filter P).map Int.ofNat
theorem sel_succ (P : Nat → Bool) (y : Nat) : sel P (y + 1) = sel P y ++ if P y then [(y : Int)] else [] := by
  unfold sel
  rw [List.range_succ, List.filter_append, List.map_append]
  congr 1
  by_cases h : P y <;> simp [h]
theorem sel_len (P : Nat → Bool) (y : Nat) : (sel P y).length ≤ y := by
  unfold sel
  rw [List.length_map]
  exact Nat.le_trans (List.length_filter_le _ _) (by simp)
/-- is a part another one? -/
def otherP (S T : List Nat) (i : Nat) : Bool := !decide (partL S i = partL T i)
def turnedL (S T : List Nat) : List Int := sel (otherP S T) 9

/-! ### a part's bytes tell the part -/
theorem dropWhile_zeros (l : List Nat) : l = List.replicate (l.length - (l.dropWhile (· == 0)).length) 0 ++ l.dropWhile (· == 0) := by
  induction l with
  | nil => rfl
  | cons x l ih =>
    by_cases h : x = 0
    · subst h
      have hle := (List.dropWhile_sublist (l := l) (· == 0)).length_le
      simp only [List.dropWhile_cons, beq_self_eq_true, if_true, List.length_cons]
      rw [show l.length + 1 - (l.dropWhile (· == 0)).length = (l.length - (l.dropWhile (· == 0)).length) + 1 by omega, List.replicate_succ, List.cons_append, ← ih]
    · have : (x == 0) = false := by simpa using h
      simp [this]
theorem trimZ_fill (l : List Nat) : l = trimZ l ++ List.replicate (l.length - (trimZ l).length) 0 := by
  have h := congrArg List.reverse (dropWhile_zeros l.reverse)
  rw [List.reverse_reverse, List.reverse_append, List.reverse_replicate, List.length_reverse] at h
  unfold trimZ
  rw [List.length_reverse]
  exact h
theorem digs2_inj {s t : Nat} (hs : s < 65536) (ht : t < 65536) (h : digs s 2 = digs t 2) : s = t := by
  rw [digs2, digs2] at h
  simp only [List.cons.injEq, and_true] at h
  have h1 := congrArg UInt8.toNat h.1
  have h2 := congrArg UInt8.toNat h.2
  simp at h1 h2
  omega
theorem bytes2_inj : ∀ {l m : List Nat}, (∀ x ∈ l, x < 65536) → (∀ x ∈ m, x < 65536) → bytes2 l = bytes2 m → l = m
  | [], [], _, _, _ => rfl
  | [], y :: m, _, _, h => by have := congrArg List.length h; rw [bytes2_len, bytes2_len] at this; simp at this
  | x :: l, [], _, _, h => by have := congrArg List.length h; rw [bytes2_len, bytes2_len] at this; simp at this
  | x :: l, y :: m, hl, hm, h => by
    unfold bytes2 at h
    rw [List.flatMap_cons, List.flatMap_cons] at h
    have h2 := List.append_inj h (by rw [digs_length, digs_length])
    have e1 := digs2_inj (hl x (List.mem_cons_self ..)) (hm y (List.mem_cons_self ..)) h2.1
    have e2 := bytes2_inj (fun z hz => hl z (List.mem_cons_of_mem _ hz)) (fun z hz => hm z (List.mem_cons_of_mem _ hz)) h2.2
    rw [e1, e2]
theorem trimZ_mem {l : List Nat} {x : Nat} (h : x ∈ trimZ l) : x ∈ l := by
  unfold trimZ at h
  rw [List.mem_reverse] at h
  exact List.mem_reverse.1 ((List.dropWhile_sublist _).subset h)
theorem part_mem {S : List Nat} (h : Good S) (i x : Nat) (hx : x ∈ partL S i) : x < 65536 := by
  obtain ⟨j, hj⟩ := List.getElem?_of_mem hx
  have := part_lt h i j
  rw [List.getD_eq_getElem?_getD, hj] at this
  exact this
theorem partB_inj {S T : List Nat} (hS : Good S) (hT : Good T) (i : Nat) (hi : i < 9) : decide (partB S i = partB T i) = decide (partL S i = partL T i) := by
  rw [decide_eq_decide]
  have e : ∀ S : List Nat, partB S i = bytes2 (trimZ (partL S i)) := fun S => by rw [partB, if_pos (by omega)]; rfl
  rw [e, e]
  constructor
  · intro h
    have h2 := bytes2_inj (fun x hx => part_mem hS i x (trimZ_mem hx)) (fun x hx => part_mem hT i x (trimZ_mem hx)) h
    have f1 := trimZ_fill (partL S i)
    have f2 := trimZ_fill (partL T i)
    rw [f1, f2, h2, part_len hS i hi, part_len hT i hi]
  · intro h; rw [h]

/-! ### Turned -/
set_option maxRecDepth 100000 in
set_option maxHeartbeats 1600000 in
theorem turned_p (b1 b2 : Nat) (S T : List Nat) (w : World) (h1 : PM w b1 S) (h2 : PM w b2 T) (L : List Int) (hL : Hid (L = turnedL S T)) (N : Nat) (hN : Hid (N = L.length)) :
    Calls Try.prog 18 #[.pointer (some ⟨b1, 0, none⟩), .pointer (some ⟨b2, 0, none⟩)] w fun e w' => ∃ v, e = .returned v ∧ Own w' w.heap.size 1 v N (ints L) ∧ Below w.heap.size w w' := by
  have hB1 := Below.refl w.heap.size w
  go_enter Try.func18, Try.ntmps18
  go_wp2_with fail
  go_loopw [5, 6, 13] (fun v5 v6 v13 wr => ∃ k M : Nat, k ≤ 9 ∧ v13 = .int .i64 k ∧ M = (sel (otherP S T) k).length ∧ Own wr (w).heap.size 1 v5 M (ints (sel (otherP S T) k)) ∧ Below (w).heap.size w wr) (fun _ _ v13 _ => 9 - (intOf v13).toNat)
  case atStart => exact ⟨0, 0, Nat.zero_le _, rfl, rfl, Own.nil _ _ _, Below.refl _ _⟩
  case round =>
    obtain ⟨k, M, hk, rfl, hM, ho, hb⟩ := hrel
    obtain ⟨a5, c5, rfl⟩ := ho.form
    by_cases hk9 : k = 9
    · subst hk9
      have HNM : Hid (N = M ∧ L = sel (otherP S T) 9) := ⟨by rw [hN.out, hL.out, hM]; rfl, hL.out⟩
      clear hM
      go_wp2_with fail
      go_ret
      rw [HNM.out.1, HNM.out.2]
      exact ⟨_, rfl, ho.mono hB1.size, hB1.trans (hb.mono hB1.size)⟩
    · have hlt : k < 9 := by omega
      have hlt' : (k : Int) < 9 := by omega
      have hp1 := (h1.below hb)
      have hp2 := (h2.below hb)
      have hs1 := part_row hp1.1 hp1.2 k hlt
      have hs2 := part_row hp2.1 hp2.2 k hlt
      have hM9 : M ≤ 9 := by rw [hM]; have := sel_len (otherP S T) k; omega
      have HM := Lib.hid hM
      have HSC := Lib.hid (sel_succ (otherP S T) k)
      obtain ⟨P, hP⟩ : ∃ P, P = partN k := ⟨_, rfl⟩
      obtain ⟨O, hO⟩ : ∃ O, O = 124 * k := ⟨_, rfl⟩
      obtain ⟨C, hC⟩ : ∃ C, C = 1024 - 124 * k := ⟨_, rfl⟩
      rw [← hC, ← hO, ← hP] at hs1 hs2
      have HP := Lib.hid hP
      have HO := Lib.hid hO
      have HC := Lib.hid hC
      clear hM hP hO hC hp1 hp2
      go_wp2_with fail
      refine (part_ok b1 k wr hlt).mono ?_
      rintro e w3 ⟨rfl, rfl⟩
      rw [← HC.out, ← HO.out, ← HP.out]
      go_wp2_with fail
      refine (part_ok b2 k wr hlt).mono ?_
      rintro e w3 ⟨rfl, rfl⟩
      rw [← HC.out, ← HO.out, ← HP.out]
      go_wp2_with fail
      obtain ⟨R, hR⟩ : ∃ R, R = decide (partL S k = partL T k) := ⟨_, rfl⟩
      have HR := Lib.hid hR
      clear hR
      refine (equal16_p _ P C _ P C (partL S k) (partL T k) wr hs1 hs2 R HR).mono ?_
      rintro e w3 ⟨rfl, hb3⟩
      have ho3 := ho.below hb3
      have hb4 := hb.trans (hb3.mono hb.size)
      have HO2 : Hid (otherP S T k = !R) := by show _ = _; rw [otherP, HR.out]
      cases R with
      | true =>
        have HSF : Hid (sel (otherP S T) (k + 1) = sel (otherP S T) k) := by show _ = _; rw [HSC.out, HO2.out]; simp
        clear hs1 hs2
        go_wp2_with fail
        exact ⟨⟨k + 1, M, by omega, by go_num, by rw [HSF.out]; exact HM.out, by rw [HSF.out]; exact ho3, hb4⟩, by simp [intOf]; omega⟩
      | false =>
        have HST : Hid (sel (otherP S T) (k + 1) = sel (otherP S T) k ++ [(k : Int)]) := by show _ = _; rw [HSC.out, HO2.out]; simp
        have ho5 := ho3.alloc (.cells #[.int .i64 (k : Int)] 3)
        have hs5 := Sl.one w3 (.int .i64 (k : Int)) 3
        have hb5 := hb4.alloc hb4.size (.cells #[.int .i64 (k : Int)] 3)
        clear hs1 hs2
        go_wp2_with (at_builtin; refine wpL_append etI rfl _ _ rfl ho5 rfl hs5 rfl (by simp [Value.oneCell']) (by omega) (by simp [maxLen]; omega) hb5.size ?_; intro v7 w7 ho7 hg7; have hb7 := below_own hb5 ho5 hg7 (Nat.le_refl _) hb5.size; clear hg7)
        refine ⟨⟨k + 1, M + 1, by omega, by go_num, by rw [HST.out, List.length_append, HM.out]; rfl, ?_, hb7⟩, by simp [intOf]; omega⟩
        rw [HST.out, ints_append]
        exact ho7
set_option maxRecDepth 100000 in
set_option maxHeartbeats 1600000 in
theorem turned_n (b1 : Nat) (S T : List Nat) (w : World) (h0 : PM w b1 S) (hT0 : T = List.replicate 1024 0) (L : List Int) (hL : Hid (L = turnedL S T)) (N : Nat) (hN : Hid (N = L.length)) :
    Calls Try.prog 18 #[.pointer (some ⟨b1, 0, none⟩), .pointer none] w fun e w' => ∃ v, e = .returned v ∧ Own w' w.heap.size 1 v N (ints L) ∧ Below w.heap.size w w' := by
  have HT := Lib.hid hT0
  clear hT0
  go_enter Try.func18, Try.ntmps18
  go_wp2_with fail
  refine (new_h w).mono ?_
  rintro e w1 ⟨rfl, h2, hB1⟩
  have h1 := h0.below hB1
  rw [← HT.out] at h2
  obtain ⟨b2, hb2⟩ : ∃ b2, b2 = w.heap.size := ⟨_, rfl⟩
  rw [← hb2] at h2
  have hb2' : (Value.pointer (some ⟨w.heap.size, 0, none⟩)) = .pointer (some ⟨b2, 0, none⟩) := by rw [hb2]
  rw [hb2']
  clear hb2 hb2' h0
  go_wp2_with fail
  go_loopw [5, 6, 13] (fun v5 v6 v13 wr => ∃ k M : Nat, k ≤ 9 ∧ v13 = .int .i64 k ∧ M = (sel (otherP S T) k).length ∧ Own wr (w1).heap.size 1 v5 M (ints (sel (otherP S T) k)) ∧ Below (w1).heap.size w1 wr) (fun _ _ v13 _ => 9 - (intOf v13).toNat)
  case atStart => exact ⟨0, 0, Nat.zero_le _, rfl, rfl, Own.nil _ _ _, Below.refl _ _⟩
  case round =>
    obtain ⟨k, M, hk, rfl, hM, ho, hb⟩ := hrel
    obtain ⟨a5, c5, rfl⟩ := ho.form
    by_cases hk9 : k = 9
    · subst hk9
      have HNM : Hid (N = M ∧ L = sel (otherP S T) 9) := ⟨by rw [hN.out, hL.out, hM]; rfl, hL.out⟩
      clear hM
      go_wp2_with fail
      go_ret
      rw [HNM.out.1, HNM.out.2]
      exact ⟨_, rfl, ho.mono hB1.size, hB1.trans (hb.mono hB1.size)⟩
    · have hlt : k < 9 := by omega
      have hlt' : (k : Int) < 9 := by omega
      have hp1 := (h1.below hb)
      have hp2 := (h2.below hb)
      have hs1 := part_row hp1.1 hp1.2 k hlt
      have hs2 := part_row hp2.1 hp2.2 k hlt
      have hM9 : M ≤ 9 := by rw [hM]; have := sel_len (otherP S T) k; omega
      have HM := Lib.hid hM
      have HSC := Lib.hid (sel_succ (otherP S T) k)
      obtain ⟨P, hP⟩ : ∃ P, P = partN k := ⟨_, rfl⟩
      obtain ⟨O, hO⟩ : ∃ O, O = 124 * k := ⟨_, rfl⟩
      obtain ⟨C, hC⟩ : ∃ C, C = 1024 - 124 * k := ⟨_, rfl⟩
      rw [← hC, ← hO, ← hP] at hs1 hs2
      have HP := Lib.hid hP
      have HO := Lib.hid hO
      have HC := Lib.hid hC
      clear hM hP hO hC hp1 hp2
      go_wp2_with fail
      refine (part_ok b1 k wr hlt).mono ?_
      rintro e w3 ⟨rfl, rfl⟩
      rw [← HC.out, ← HO.out, ← HP.out]
      go_wp2_with fail
      refine (part_ok b2 k wr hlt).mono ?_
      rintro e w3 ⟨rfl, rfl⟩
      rw [← HC.out, ← HO.out, ← HP.out]
      go_wp2_with fail
      obtain ⟨R, hR⟩ : ∃ R, R = decide (partL S k = partL T k) := ⟨_, rfl⟩
      have HR := Lib.hid hR
      clear hR
      refine (equal16_p _ P C _ P C (partL S k) (partL T k) wr hs1 hs2 R HR).mono ?_
      rintro e w3 ⟨rfl, hb3⟩
      have ho3 := ho.below hb3
      have hb4 := hb.trans (hb3.mono hb.size)
      have HO2 : Hid (otherP S T k = !R) := by show _ = _; rw [otherP, HR.out]
      cases R with
      | true =>
        have HSF : Hid (sel (otherP S T) (k + 1) = sel (otherP S T) k) := by show _ = _; rw [HSC.out, HO2.out]; simp
        clear hs1 hs2
        go_wp2_with fail
        exact ⟨⟨k + 1, M, by omega, by go_num, by rw [HSF.out]; exact HM.out, by rw [HSF.out]; exact ho3, hb4⟩, by simp [intOf]; omega⟩
      | false =>
        have HST : Hid (sel (otherP S T) (k + 1) = sel (otherP S T) k ++ [(k : Int)]) := by show _ = _; rw [HSC.out, HO2.out]; simp
        have ho5 := ho3.alloc (.cells #[.int .i64 (k : Int)] 3)
        have hs5 := Sl.one w3 (.int .i64 (k : Int)) 3
        have hb5 := hb4.alloc hb4.size (.cells #[.int .i64 (k : Int)] 3)
        clear hs1 hs2
        go_wp2_with (at_builtin; refine wpL_append etI rfl _ _ rfl ho5 rfl hs5 rfl (by simp [Value.oneCell']) (by omega) (by simp [maxLen]; omega) hb5.size ?_; intro v7 w7 ho7 hg7; have hb7 := below_own hb5 ho5 hg7 (Nat.le_refl _) hb5.size; clear hg7)
        refine ⟨⟨k + 1, M + 1, by omega, by go_num, by rw [HST.out, List.length_append, HM.out]; rfl, ?_, hb7⟩, by simp [intOf]; omega⟩
        rw [HST.out, ints_append]
        exact ho7
set_option maxRecDepth 100000 in
set_option maxHeartbeats 1600000 in
theorem turned_o (b2 : Nat) (S T : List Nat) (w : World) (h0 : PM w b2 T) (hS0 : S = List.replicate 1024 0) (L : List Int) (hL : Hid (L = turnedL S T)) (N : Nat) (hN : Hid (N = L.length)) :
    Calls Try.prog 18 #[.pointer none, .pointer (some ⟨b2, 0, none⟩)] w fun e w' => ∃ v, e = .returned v ∧ Own w' w.heap.size 1 v N (ints L) ∧ Below w.heap.size w w' := by
  have HS := Lib.hid hS0
  clear hS0
  go_enter Try.func18, Try.ntmps18
  go_wp2_with fail
  refine (new_h w).mono ?_
  rintro e w1 ⟨rfl, h1, hB1⟩
  have h2 := h0.below hB1
  rw [← HS.out] at h1
  obtain ⟨b1, hb1⟩ : ∃ b1, b1 = w.heap.size := ⟨_, rfl⟩
  rw [← hb1] at h1
  have hb1' : (Value.pointer (some ⟨w.heap.size, 0, none⟩)) = .pointer (some ⟨b1, 0, none⟩) := by rw [hb1]
  rw [hb1']
  clear hb1 hb1' h0
  go_wp2_with fail
  go_loopw [5, 6, 13] (fun v5 v6 v13 wr => ∃ k M : Nat, k ≤ 9 ∧ v13 = .int .i64 k ∧ M = (sel (otherP S T) k).length ∧ Own wr (w1).heap.size 1 v5 M (ints (sel (otherP S T) k)) ∧ Below (w1).heap.size w1 wr) (fun _ _ v13 _ => 9 - (intOf v13).toNat)
  case atStart => exact ⟨0, 0, Nat.zero_le _, rfl, rfl, Own.nil _ _ _, Below.refl _ _⟩
  case round =>
    obtain ⟨k, M, hk, rfl, hM, ho, hb⟩ := hrel
    obtain ⟨a5, c5, rfl⟩ := ho.form
    by_cases hk9 : k = 9
    · subst hk9
      have HNM : Hid (N = M ∧ L = sel (otherP S T) 9) := ⟨by rw [hN.out, hL.out, hM]; rfl, hL.out⟩
      clear hM
      go_wp2_with fail
      go_ret
      rw [HNM.out.1, HNM.out.2]
      exact ⟨_, rfl, ho.mono hB1.size, hB1.trans (hb.mono hB1.size)⟩
    · have hlt : k < 9 := by omega
      have hlt' : (k : Int) < 9 := by omega
      have hp1 := (h1.below hb)
      have hp2 := (h2.below hb)
      have hs1 := part_row hp1.1 hp1.2 k hlt
      have hs2 := part_row hp2.1 hp2.2 k hlt
      have hM9 : M ≤ 9 := by rw [hM]; have := sel_len (otherP S T) k; omega
      have HM := Lib.hid hM
      have HSC := Lib.hid (sel_succ (otherP S T) k)
      obtain ⟨P, hP⟩ : ∃ P, P = partN k := ⟨_, rfl⟩
      obtain ⟨O, hO⟩ : ∃ O, O = 124 * k := ⟨_, rfl⟩
      obtain ⟨C, hC⟩ : ∃ C, C = 1024 - 124 * k := ⟨_, rfl⟩
      rw [← hC, ← hO, ← hP] at hs1 hs2
      have HP := Lib.hid hP
      have HO := Lib.hid hO
      have HC := Lib.hid hC
      clear hM hP hO hC hp1 hp2
      go_wp2_with fail
      refine (part_ok b1 k wr hlt).mono ?_
      rintro e w3 ⟨rfl, rfl⟩
      rw [← HC.out, ← HO.out, ← HP.out]
      go_wp2_with fail
      refine (part_ok b2 k wr hlt).mono ?_
      rintro e w3 ⟨rfl, rfl⟩
      rw [← HC.out, ← HO.out, ← HP.out]
      go_wp2_with fail
      obtain ⟨R, hR⟩ : ∃ R, R = decide (partL S k = partL T k) := ⟨_, rfl⟩
      have HR := Lib.hid hR
      clear hR
      refine (equal16_p _ P C _ P C (partL S k) (partL T k) wr hs1 hs2 R HR).mono ?_
      rintro e w3 ⟨rfl, hb3⟩
      have ho3 := ho.below hb3
      have hb4 := hb.trans (hb3.mono hb.size)
      have HO2 : Hid (otherP S T k = !R) := by show _ = _; rw [otherP, HR.out]
      cases R with
      | true =>
        have HSF : Hid (sel (otherP S T) (k + 1) = sel (otherP S T) k) := by show _ = _; rw [HSC.out, HO2.out]; simp
        clear hs1 hs2
        go_wp2_with fail
        exact ⟨⟨k + 1, M, by omega, by go_num, by rw [HSF.out]; exact HM.out, by rw [HSF.out]; exact ho3, hb4⟩, by simp [intOf]; omega⟩
      | false =>
        have HST : Hid (sel (otherP S T) (k + 1) = sel (otherP S T) k ++ [(k : Int)]) := by show _ = _; rw [HSC.out, HO2.out]; simp
        have ho5 := ho3.alloc (.cells #[.int .i64 (k : Int)] 3)
        have hs5 := Sl.one w3 (.int .i64 (k : Int)) 3
        have hb5 := hb4.alloc hb4.size (.cells #[.int .i64 (k : Int)] 3)
        clear hs1 hs2
        go_wp2_with (at_builtin; refine wpL_append etI rfl _ _ rfl ho5 rfl hs5 rfl (by simp [Value.oneCell']) (by omega) (by simp [maxLen]; omega) hb5.size ?_; intro v7 w7 ho7 hg7; have hb7 := below_own hb5 ho5 hg7 (Nat.le_refl _) hb5.size; clear hg7)
        refine ⟨⟨k + 1, M + 1, by omega, by go_num, by rw [HST.out, List.length_append, HM.out]; rfl, ?_, hb7⟩, by simp [intOf]; omega⟩
        rw [HST.out, ints_append]
        exact ho7
end Go.Proofs.Ytljbpflcnicaiaa
