/-
  SlotsRoom, walked.
-/
import Derived.Test.YtafigfgcgnnbnaaSlotW
namespace Go.Proofs.Ytafigfgcgnnbnaa
open Go.RowKit
set_option linter.unusedVariables false
set_option linter.unusedSimpArgs false

theorem put_len {p r : List UInt8} (h : putIs p r = true) : (putQ p r).length ≤ 248 := by
  have e := putIs_eq p r
  rw [h] at e
  simp only [Bool.true_eq, Bool.and_eq_true, decide_eq_true_eq] at e
  rw [putQ, if_pos h]
  exact e.2
theorem get_ok {p : List UInt8} {s : Int} (h : getIs p s = true) : readOk p = true := by
  cases hb : readOk p
  · simp [getIs, readL_not hb] at h
  · rfl
theorem drop_len {p : List UInt8} {s : Int} (h : getIs p s = true) : (dropQ p s).length ≤ 248 := by
  obtain ⟨h1, h2, h3, h4⟩ := read_parts (get_ok h)
  rw [dropQ, if_pos h]
  have h5 := writeL_len (dropRows (readL p) s.toNat)
  have h6 := set_flat (readL p) s.toNat []
  simp only [dropRows, List.length_set, List.length_nil] at *
  omega
theorem room_full {p : List UInt8} {k : Nat} (h : roomN p = k) (hk : 0 < k) : putIs p (List.replicate k 0) = true ∧ (putQ p (List.replicate k 0)).length = 248 ∧ roomN (putQ p (List.replicate k 0)) = -1 := by
  have h1 : putIs p (List.replicate k 0) = true := by rw [putIs_room p k hk, h]; simp
  rcases roomN_cases p with h2 | ⟨h2, h3, h4⟩
  · omega
  have hne : List.replicate k (0 : UInt8) ≠ [] := by intro e; have := congrArg List.length e; simp at this; omega
  have h5 := put_fits h2 hne
  have h6 : leftN p = k := by
    rw [roomN] at h
    split at h
    · omega
    · exact h
  have h7 : (putQ p (List.replicate k 0)).length = 248 := by
    rw [putQ, if_pos h1, h5, List.length_replicate]
    unfold leftN at h6
    split at h6 <;> simp_all <;> omega
  refine ⟨h1, h7, ?_⟩
  rw [roomN, if_pos]
  right
  unfold leftN
  split <;> omega


set_option maxRecDepth 100000 in
set_option maxHeartbeats 2000000 in
theorem slotsRoom_walk (a : Option Addr) (n c t : Nat) (ht : t < 256) (l : List (List UInt8 × Int)) (w : World) (hl : SlOf VStep 2 w (.slice a n c) l) :
    Calls Try.prog 5 #[.slice a n c, .int .u8 t] w fun e w' => e = .returned (.bool true) ∧ Below w.heap.size w w' := by
  have hn := hl.len
  have hn2 := hn.2
  clear hn
  go_enter Try.func5, Try.ntmps5
  go_wp2_with fail
  refine (long_any a n c l w hl).mono ?_
  rintro e w1 ⟨B, rfl, hB, hb⟩
  have HS := Lib.hid hB
  clear hB
  cases B with
  | true =>
    go_wp2_with fail
    refine (works_any w1).mono ?_
    rintro e w2 ⟨rfl, hb2⟩
    go_wp2_with fail
    go_ret
    exact ⟨rfl, hb.trans (hb2.mono hb.size)⟩
  | false =>
  have hS : ∀ (i : Nat) (r : List UInt8) (z : Int), l[i]? = some (r, z) → r.length ≤ 512 := (HS.out rfl).2
  have HSH := Lib.hid hS
  clear hS HS
  go_wp2_with fail
  refine (empty_any w1).mono ?_
  rintro e w2 ⟨v2, rfl, ho2, hb2⟩
  obtain ⟨a2, c2, rfl⟩ := ho2.form
  have hB2 := hb.trans (hb2.mono hb.size)
  go_wp2_with fail
  go_loopw [5, 6, 7, 8, 9, 10, 11] (fun v5 v6 v7 v8 v9 v10 v11 wr => ∃ k N : Nat, ∃ q : List UInt8, k ≤ n ∧ v6 = .int .i64 k ∧ N = q.length ∧ N ≤ 248 ∧ Own wr w.heap.size 1 v5 N (bvs q) ∧ Below w.heap.size w wr) (fun _ v6 _ _ _ _ _ _ => n - (intOf v6).toNat)
  case atStart => exact ⟨0, 1, [0], Nat.zero_le _, rfl, rfl, by omega, ho2.mono hb.size, hB2⟩
  case round =>
    obtain ⟨k, N, q, hk, rfl, hNq, hN, ho, hB⟩ := hrel
    obtain ⟨a5, c5, rfl⟩ := ho.form
    have HNQ := Lib.hid hNq
    clear hNq
    by_cases hkn : k = n
    · subst hkn
      go_wp2_with fail
      refine (room_any a5 N c5 q wr ho.sl (by omega)).mono ?_
      rintro e w3 ⟨rfl, hb3⟩
      have hcs := roomN_cases q
      have hpt := putIs_room q
      have hfull : ∀ k : Nat, roomN q = k → 0 < k → putIs q (List.replicate k 0) = true ∧ (putQ q (List.replicate k 0)).length = 248 ∧ roomN (putQ q (List.replicate k 0)) = -1 := fun k h1 h2 => room_full h1 h2
      obtain ⟨R, hR⟩ : ∃ R, R = roomN q := ⟨_, rfl⟩
      rw [← hR] at hcs hpt hfull
      rw [← hR]
      clear hR
      have HCS := Lib.hid hcs
      have HPT := Lib.hid hpt
      have HF := Lib.hid hfull
      have ho3 := ho.below hb3
      have hB3 := hB.trans (hb3.mono hB.size)
      clear hcs hpt hfull
      go_wp2_with (at_make; refine wpL_make etB rfl rfl _ _ rfl t w.heap.size rfl rfl rfl rfl (by omega) (by simp [maxLen]; omega) hB3.size ?_; rintro v4 w4 hown4 hb4 ⟨g4, off4, rfl, hg4⟩; have ho4 := ho3.below hb4; have hB4 := hB3.trans (hb4.mono hB3.size))
      rw [bvs_replicate] at hown4
      refine (put_any a5 N c5 q _ t t _ w4 ho4.sl (by omega) hown4.sl (by omega)).mono ?_
      rintro e w5 ⟨v5, rfl, ho5, hb5⟩
      obtain ⟨a6, c6, rfl⟩ := ho5.form
      have ho6 := ho4.below hb5
      have hB5 := hB4.trans (hb5.mono hB4.size)
      obtain ⟨PS, hPS⟩ : ∃ PS, PS = putS q (List.replicate t 0) := ⟨_, rfl⟩
      obtain ⟨PL, hPL⟩ : ∃ PL, PL = (putQ q (List.replicate t 0)).length := ⟨_, rfl⟩
      rw [← hPS, ← hPL]
      clear hPS hPL ho5
      have hR0 : (R == 0) = false := by rw [beq_eq_false_iff_ne]; have := HCS.out; omega
      have hR1 : ¬ R < -1 := by have := HCS.out; omega
      have hR2 : ¬ 246 < R := by have := HCS.out; omega
      have hput : Hid (putIs q (List.replicate t 0) = (decide (1 ≤ (t : Int)) && decide ((t : Int) ≤ R))) := by
        show _ = _
        by_cases h0 : t = 0
        · subst h0; simp [putIs]
        · rw [HPT.out t (by omega), decide_eq_true (by omega : 1 ≤ (t : Int))]; rfl
      rw [hput.out]
      have key : ∀ (b1 : Bool), b1 = (decide (1 ≤ (t : Int)) && decide ((t : Int) ≤ R)) → (1 ≤ (t : Int) ∧ (t : Int) ≤ R ∧ b1 = true) ∨ (1 ≤ (t : Int) ∧ ¬ (t : Int) ≤ R ∧ b1 = false) ∨ (¬ 1 ≤ (t : Int) ∧ b1 = false) := by
        intro b1 h
        by_cases h1 : 1 ≤ (t : Int)
        · by_cases h2 : (t : Int) ≤ R
          · left; refine ⟨h1, h2, ?_⟩; rw [h, decide_eq_true h1, decide_eq_true h2]; rfl
          · right; left; refine ⟨h1, h2, ?_⟩; rw [h, decide_eq_true h1, decide_eq_false h2]; rfl
        · right; right; refine ⟨h1, ?_⟩; rw [h, decide_eq_false h1]; rfl
      obtain ⟨b1, hb1⟩ : ∃ b1, b1 = (decide (1 ≤ (t : Int)) && decide ((t : Int) ≤ R)) := ⟨_, rfl⟩
      have hcase := key b1 hb1
      rw [← hb1]
      clear hb1 key
      by_cases hRn : R < 0
      · rcases hcase with ⟨h1, h2, rfl⟩ | ⟨h1, h2, rfl⟩ | ⟨h1, rfl⟩
        · omega
        · go_wp2_with fail
          refine (works_any w5).mono ?_
          rintro e w6 ⟨rfl, hb6⟩
          go_wp2_with fail
          go_ret
          exact ⟨rfl, hB5.trans (hb6.mono hB5.size)⟩
        · go_wp2_with fail
          refine (works_any w5).mono ?_
          rintro e w6 ⟨rfl, hb6⟩
          go_wp2_with fail
          go_ret
          exact ⟨rfl, hB5.trans (hb6.mono hB5.size)⟩
      · obtain ⟨j, hj⟩ : ∃ j : Nat, R = j := ⟨R.toNat, by omega⟩
        subst hj
        have hj0 : 0 < j := by have := HCS.out; omega
        have hj9 : j ≤ 246 := by have := HCS.out; omega
        have hfl := HF.out j rfl hj0
        have HFL := Lib.hid hfl
        clear hfl
        rcases hcase with ⟨h1, h2, rfl⟩ | ⟨h1, h2, rfl⟩ | ⟨h1, rfl⟩
        · go_wp2_with (at_make; refine wpL_make etB rfl rfl _ _ rfl j w.heap.size rfl rfl rfl rfl (by omega) (by simp [maxLen]; omega) hB5.size ?_; rintro v7 w7 hown7 hb7 ⟨g7, off7, rfl, hg7⟩; have ho7 := ho6.below hb7; have hB7 := hB5.trans (hb7.mono hB5.size))
          rw [bvs_replicate] at hown7
          refine (put_any a5 N c5 q _ j j _ w7 ho7.sl (by omega) hown7.sl (by omega)).mono ?_
          rintro e w8 ⟨v8, rfl, ho8, hb8⟩
          obtain ⟨a8, c8, rfl⟩ := ho8.form
          have hB8 := hB7.trans (hb8.mono hB7.size)
          rw [HFL.out.2.1] at ho8
          rw [HFL.out.1, HFL.out.2.1]
          obtain ⟨PS2, hPS2⟩ : ∃ PS, PS = putS q (List.replicate j 0) := ⟨_, rfl⟩
          rw [← hPS2]
          clear hPS2
          go_wp2_with fail
          refine (room_any a8 248 c8 _ w8 ho8.sl (by omega)).mono ?_
          rintro e w9 ⟨rfl, hb9⟩
          have hB9 := hB8.trans (hb9.mono hB8.size)
          rw [HFL.out.2.2]
          go_wp2_with fail
          refine (works_any w9).mono ?_
          rintro e w10 ⟨rfl, hb10⟩
          go_wp2_with fail
          go_ret
          exact ⟨rfl, hB9.trans (hb10.mono hB9.size)⟩
        · go_wp2_with (at_make; refine wpL_make etB rfl rfl _ _ rfl j w.heap.size rfl rfl rfl rfl (by omega) (by simp [maxLen]; omega) hB5.size ?_; rintro v7 w7 hown7 hb7 ⟨g7, off7, rfl, hg7⟩; have ho7 := ho6.below hb7; have hB7 := hB5.trans (hb7.mono hB5.size))
          rw [bvs_replicate] at hown7
          refine (put_any a5 N c5 q _ j j _ w7 ho7.sl (by omega) hown7.sl (by omega)).mono ?_
          rintro e w8 ⟨v8, rfl, ho8, hb8⟩
          obtain ⟨a8, c8, rfl⟩ := ho8.form
          have hB8 := hB7.trans (hb8.mono hB7.size)
          rw [HFL.out.2.1] at ho8
          rw [HFL.out.1, HFL.out.2.1]
          obtain ⟨PS2, hPS2⟩ : ∃ PS, PS = putS q (List.replicate j 0) := ⟨_, rfl⟩
          rw [← hPS2]
          clear hPS2
          go_wp2_with fail
          refine (room_any a8 248 c8 _ w8 ho8.sl (by omega)).mono ?_
          rintro e w9 ⟨rfl, hb9⟩
          have hB9 := hB8.trans (hb9.mono hB8.size)
          rw [HFL.out.2.2]
          go_wp2_with fail
          refine (works_any w9).mono ?_
          rintro e w10 ⟨rfl, hb10⟩
          go_wp2_with fail
          go_ret
          exact ⟨rfl, hB9.trans (hb10.mono hB9.size)⟩
        · go_wp2_with (at_make; refine wpL_make etB rfl rfl _ _ rfl j w.heap.size rfl rfl rfl rfl (by omega) (by simp [maxLen]; omega) hB5.size ?_; rintro v7 w7 hown7 hb7 ⟨g7, off7, rfl, hg7⟩; have ho7 := ho6.below hb7; have hB7 := hB5.trans (hb7.mono hB5.size))
          rw [bvs_replicate] at hown7
          refine (put_any a5 N c5 q _ j j _ w7 ho7.sl (by omega) hown7.sl (by omega)).mono ?_
          rintro e w8 ⟨v8, rfl, ho8, hb8⟩
          obtain ⟨a8, c8, rfl⟩ := ho8.form
          have hB8 := hB7.trans (hb8.mono hB7.size)
          rw [HFL.out.2.1] at ho8
          rw [HFL.out.1, HFL.out.2.1]
          obtain ⟨PS2, hPS2⟩ : ∃ PS, PS = putS q (List.replicate j 0) := ⟨_, rfl⟩
          rw [← hPS2]
          clear hPS2
          go_wp2_with fail
          refine (room_any a8 248 c8 _ w8 ho8.sl (by omega)).mono ?_
          rintro e w9 ⟨rfl, hb9⟩
          have hB9 := hB8.trans (hb9.mono hB8.size)
          rw [HFL.out.2.2]
          go_wp2_with fail
          refine (works_any w9).mono ?_
          rintro e w10 ⟨rfl, hb10⟩
          go_wp2_with fail
          go_ret
          exact ⟨rfl, hB9.trans (hb10.mono hB9.size)⟩
    · have hlt : k < n := by omega
      have hlt' : (k : Int) < n := by omega
      obtain ⟨b, off, av, cv, m, r, z, rfl, hri, hrm, hz, hsl, hc0, hc1⟩ := step_at (hl.below stabStep hB) k hlt
      have hm5 : m ≤ 512 := by have := HSH.out k r z hri; omega
      clear hri hrm
      by_cases hm0 : m = 0
      · subst hm0
        go_wp2_with fail
        refine (drop_any a5 N c5 q wr z ho.sl (by omega)).mono ?_
        rintro e w3 ⟨v3, rfl, ho3, hb3⟩
        obtain ⟨a6, c6, rfl⟩ := ho3.form
        have ho4 := ho.below hb3
        have hB3 := hB.trans (hb3.mono hB.size)
        obtain ⟨Q, hQ⟩ : ∃ Q, Q = dropQ q z := ⟨_, rfl⟩
        have hQl : getIs q z = true → Q.length ≤ 248 := fun h => by rw [hQ]; exact drop_len h
        rw [← hQ] at ho3
        rw [← hQ]
        clear hQ
        cases hG : getIs q z with
        | true =>
          have hq8 := hQl hG
          obtain ⟨L, hL⟩ : ∃ L, L = Q.length := ⟨_, rfl⟩
          rw [← hL] at ho3 hq8
          rw [← hL]
          have HL := Lib.hid hL
          clear hL hQl hG
          go_wp2_with fail
          exact ⟨⟨k + 1, L, Q, by omega, by go_num, HL.out, hq8, ho3.mono hB.size, hB3⟩, by simp [intOf]; omega⟩
        | false =>
          obtain ⟨L, hL⟩ : ∃ L, L = Q.length := ⟨_, rfl⟩
          rw [← hL]
          clear hL hQl hG ho3
          go_wp2_with fail
          exact ⟨⟨k + 1, N, q, by omega, by go_num, HNQ.out, hN, ho4, hB3⟩, by simp [intOf]; omega⟩
      · have hm1 : (0 : Int) < m := by omega
        go_wp2_with fail
        refine (put_any a5 N c5 q av m cv r wr ho.sl (by omega) hsl (by omega)).mono ?_
        rintro e w3 ⟨v3, rfl, ho3, hb3⟩
        obtain ⟨a6, c6, rfl⟩ := ho3.form
        have ho4 := ho.below hb3
        have hB3 := hB.trans (hb3.mono hB.size)
        obtain ⟨Q, hQ⟩ : ∃ Q, Q = putQ q r := ⟨_, rfl⟩
        obtain ⟨S, hS⟩ : ∃ S, S = putS q r := ⟨_, rfl⟩
        have hQl : putIs q r = true → Q.length ≤ 248 := fun h => by rw [hQ]; exact put_len h
        rw [← hQ] at ho3
        rw [← hQ, ← hS]
        clear hQ hS
        cases hG : putIs q r with
        | true =>
          have hq8 := hQl hG
          obtain ⟨L, hL⟩ : ∃ L, L = Q.length := ⟨_, rfl⟩
          rw [← hL] at ho3 hq8
          rw [← hL]
          have HL := Lib.hid hL
          clear hL hQl hG
          go_wp2_with fail
          exact ⟨⟨k + 1, L, Q, by omega, by go_num, HL.out, hq8, ho3.mono hB.size, hB3⟩, by simp [intOf]; omega⟩
        | false =>
          obtain ⟨L, hL⟩ : ∃ L, L = Q.length := ⟨_, rfl⟩
          rw [← hL]
          clear hL hQl hG ho3
          go_wp2_with fail
          exact ⟨⟨k + 1, N, q, by omega, by go_num, HNQ.out, hN, ho4, hB3⟩, by simp [intOf]; omega⟩
theorem slotsRoom_go (a : Option Addr) (n c : Nat) (z : Int) (hz : (Lit.int .u8 z).wf = true) (l : List (List UInt8 × Int)) (w : World) (hl : SlOf VStep 2 w (.slice a n c) l) :
    Calls Try.prog 5 #[.slice a n c, .int .u8 z] w fun e w' => e = .returned (.bool true) ∧ Below w.heap.size w w' := by
  obtain ⟨t, ht, rfl⟩ := nat_u8 hz
  exact slotsRoom_walk a n c t ht l w hl
end Go.Proofs.Ytafigfgcgnnbnaa
