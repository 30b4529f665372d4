/-
  bytes.TrimLeft of noughts, walked.
-/
import Derived.Test.YtobagfndagjajaaDoorBlkB
namespace Go.Proofs.YtobagfndagjajaaDoor
open Go.RowKit
set_option linter.unusedVariables false
set_option linter.unusedSimpArgs false

def trimL (l : List UInt8) : List UInt8 := l.dropWhile (fun x => x == 0)
theorem bounds_1 {P : Program} (w : World) (n c : Nat) (h : 1 ≤ n) : (Instr.sliceBounds true n c (some (.int .i64 1)) none none).run P w = .ok (1, n, c) w := bounds_l w n c 1 .i64 h
set_option maxHeartbeats 1600000 in
theorem trimByte_any (a : Option Addr) (n c : Nat) (l : List UInt8) (w : World) (hl : Sl w 1 (.slice a n c) n (bvs l)) :
    Calls Tryd.prog 44 #[.slice a n c, .int .u8 0] w fun e w' => ∃ a' c', e = .returned (.slice a' (trimL l).length c') ∧ w = w' := by
  go_enter Tryd.func44, Tryd.ntmps44
  go_wp2_with fail
  go_loop [0] (fun v0 => ∃ (a : Option Addr) (n c : Nat) (m : List UInt8), v0 = .slice a n c ∧ Sl w 1 (.slice a n c) n (bvs m) ∧ Hid (trimL m = trimL l)) (fun v0 => match v0 with | .slice _ n _ => n | _ => 0)
  case atStart => exact ⟨a, n, c, l, rfl, hl, Lib.hid rfl⟩
  case round =>
    clear hl
    obtain ⟨a, n, c, m, rfl, hs, HT⟩ := hrel
    have hn := hs.len
    have HN := Lib.hid hn.1
    have hn1 := hn.2.1
    have hn2 := hn.2.2.1
    have hn3 := hn.2.2.2
    clear hn
    by_cases h0 : n = 0
    · subst h0
      have hm : m = [] := List.eq_nil_of_length_eq_zero HN.out
      have e : (trimL l).length = 0 := by rw [← HT.out, hm]; rfl
      go_wp2_with fail
      go_ret
      exact ⟨⟨_, _, rfl⟩, rfl⟩
    · have h0' : 0 < n := by omega
      obtain ⟨b1, o1, rfl, hc⟩ := hs.byte (k := 0) h0'
      rw [Nat.add_zero] at hc
      cases m with
      | nil => exact absurd HN.out.symm h0
      | cons x r =>
        rw [List.getD_cons_zero] at hc
        by_cases hx : x = 0
        · have hc' : w.cell? ⟨b1, o1, none⟩ = some (.int .u8 0) := by rw [hc, hx]; rfl
          have HT2 : Hid (trimL r = trimL l) := by show _ = _; rw [← HT.out, trimL, trimL, List.dropWhile_cons, hx]; rfl
          clear hc
          go_wp2_with (refine wpL_cutW etB rfl (.tmp 15) _ none none rfl 1 n c rfl (bounds_1 _ n c (by omega)) (by omega) (Nat.le_refl _) (by omega) (by omega) ?_; intro av hav0; have hav := hav0 w _ hs; rw [bvs_drop, List.take_of_length_le (by rw [bvs_length, List.length_drop, HN.out]; exact Nat.le_refl _), List.drop_succ_cons, List.drop_zero] at hav; clear hav0)
          exact ⟨⟨av, n - 1, c - 1, r, rfl, hav, HT2⟩, by simp; omega⟩
        · have hq : 0 < x.toNat := by
            rcases Nat.eq_zero_or_pos x.toNat with h | h
            · exact absurd (by rw [← UInt8.toNat_inj, h]; rfl) hx
            · exact h
          have hq1 : ((x.toNat : Int) == 0) = false := by rw [beq_eq_false_iff_ne]; omega
          have hq2 : ¬ (x.toNat : Int) = 0 := by omega
          have e : (trimL l).length = n := by
            rw [← HT.out, trimL, List.dropWhile_cons, if_neg (by simpa using hx)]; exact HN.out
          have HE := Lib.hid e
          clear e
          generalize x.toNat = q at hc hq1 hq2
          have hn0 : ((n : Int) == 0) = false := by rw [beq_eq_false_iff_ne]; omega
          go_wp2_with fail
          go_ret
          exact ⟨⟨_, _, by rw [HE.out]; rfl⟩, rfl⟩
set_option maxRecDepth 100000 in
theorem trim_any (a : Option Addr) (n c : Nat) (l : List UInt8) (w : World) (hl : Sl w 1 (.slice a n c) n (bvs l)) :
    Calls Tryd.prog 32 #[.slice a n c, .string ⟨#[0]⟩] w fun e w' => ∃ a' c', e = .returned (.slice a' (trimL l).length c') ∧ w = w' := by
  have hn := hl.len
  have HN := Lib.hid hn.1
  have hn1 := hn.2.1
  by_cases h0 : n = 0
  · subst h0
    have hm : l = [] := List.eq_nil_of_length_eq_zero HN.out
    have e : (trimL l).length = 0 := by rw [hm]; rfl
    rw [e]
    clear hn
    go_enter Tryd.func32, Tryd.ntmps32
    go_wp2_with fail
    go_ret
    exact ⟨_, _, rfl, rfl⟩
  · have hn0 : ((n : Int) == 0) = false := by rw [beq_eq_false_iff_ne]; omega
    clear hn
    go_enter Tryd.func32, Tryd.ntmps32
    go_wp2_with fail
    refine (trimByte_any a n c l w hl).mono ?_
    rintro e w1 ⟨a', c', rfl, rfl⟩
    go_wp2_with fail
    go_ret
    exact ⟨_, _, rfl, rfl⟩
end Go.Proofs.YtobagfndagjajaaDoor
