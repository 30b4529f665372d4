/-
  The document's Read of a page. Conditions: a slice of bytes of 2^20 at most.
-/
import Derived.Test.YtafigfgcgnnbnaaSlotR
namespace Go.Proofs.Ytafigfgcgnnbnaa
open Go.RowKit
set_option linter.unusedVariables false
set_option linter.unusedSimpArgs false

theorem writeL_len (rs : List (List UInt8)) : (writeL rs).length ≤ 1 + rs.length + rs.flatten.length := by
  have h1 := trimL_le rs
  have h2 := flat_trim_le rs
  simp only [writeL, lensL, List.length_append, List.length_cons, List.length_map]
  omega

set_option maxHeartbeats 1600000 in
theorem rread_any (a : Option Addr) (n c : Nat) (p : List UInt8) (w : World) (hp : Sl w 1 (.slice a n c) n (bvs p)) (hsz : n ≤ 1048576) :
    Calls Try.prog 34 #[.slice a n c] w fun e w' => ∃ v cells, e = .returned (.tuple #[v, .bool (readOk p)]) ∧ Own w' w.heap.size 1 v (readL p).length cells ∧ Away w' v cells (readL p) ∧ Below w.heap.size w w' := by
  have hn := hp.len
  have HN := Lib.hid hn.1
  have hn2 := hn.2
  clear hn
  by_cases h0 : n = 0
  · subst h0
    have hX : readOk p = false := readOk_not (by have := HN.out; omega)
    have HX : Hid (readOk p = false ∧ readL p = []) := ⟨hX, readL_not hX⟩
    clear hX
    go_enter Try.func34, Try.ntmps34
    go_wp2_with fail
    go_ret2
    rw [HX.out.1, HX.out.2]
    exact ⟨_, [], rfl, Own.nil _ _ _, fun w' _ => RowsOf.nil _, Below.refl _ _⟩
  have hq0 : ((n : Int) == 0) = false := by rw [beq_eq_false_iff_ne]; omega
  by_cases h248 : 248 < n
  · have hX : readOk p = false := readOk_not (by have := HN.out; omega)
    have HX : Hid (readOk p = false ∧ readL p = []) := ⟨hX, readL_not hX⟩
    have h248' : (248 : Int) < n := by omega
    clear hX
    go_enter Try.func34, Try.ntmps34
    go_wp2_with fail
    go_ret2
    rw [HX.out.1, HX.out.2]
    exact ⟨_, [], rfl, Own.nil _ _ _, fun w' _ => RowsOf.nil _, Below.refl _ _⟩
  have hpos : 0 < n := by omega
  obtain ⟨b0, o0, rfl, hc0⟩ := hp.byte hpos
  rw [Nat.add_zero] at hc0
  obtain ⟨P, hP⟩ : ∃ P, P = p0 p := ⟨_, rfl⟩
  rw [show (p.getD 0 0).toNat = P from hP.symm] at hc0
  have hP255 : P < 256 := by rw [hP]; exact (p.getD 0 0).toNat_lt
  have HP := Lib.hid hP
  by_cases hbig : n < 1 + P
  · have hX : readOk p = false := readOk_not (by rw [← hP]; have := HN.out; omega)
    have HX : Hid (readOk p = false ∧ readL p = []) := ⟨hX, readL_not hX⟩
    have hbig' : (n : Int) < 1 + P := by omega
    clear hX hP
    go_enter Try.func34, Try.ntmps34
    go_wp2_with fail
    go_ret2
    rw [HX.out.1, HX.out.2]
    exact ⟨_, [], rfl, Own.nil _ _ _, fun w' _ => RowsOf.nil _, Below.refl _ _⟩
  have hbig' : ¬ (n : Int) < 1 + P := by omega
  have h248' : ¬ (248 : Int) < n := by omega
  obtain ⟨E, hE⟩ : ∃ E, E = eachL p := ⟨_, rfl⟩
  have hEP : E.length ≤ P := by rw [hE, hP]; exact eachL_le p
  have hEf : E.flatten.length ≤ n := by have := eachL_flat p; rw [← hE] at this; have := HN.out; omega
  have hAt : ∀ i, i < P → i ≤ E.length → (n - (1 + P + (E.take i).flatten.length) < (p.getD (1 + i) 0).toNat → E.length = i) ∧ (¬ n - (1 + P + (E.take i).flatten.length) < (p.getD (1 + i) 0).toNat → E[i]? = some ((p.drop (1 + P + (E.take i).flatten.length)).take (p.getD (1 + i) 0).toNat)) := by
    intro i hi hl
    have h := eachL_at p (by rw [← hP]; have := HN.out; omega) i (by rw [← hP]; exact hi) (by rw [← hE]; exact hl)
    rw [← hE, ← hP, HN.out] at h
    exact h
  have HAt := Lib.hid hAt
  have HE := Lib.hid hE
  clear hE hAt hP
  go_enter Try.func34, Try.ntmps34
  go_wp2_with fail
  go_loopw [4, 5, 6, 7] (fun v4 v5 v6 v7 wr => ∃ i q : Nat, ∃ cells, v6 = .int .i64 i ∧ v5 = .int .i64 q ∧ i ≤ P ∧ i ≤ E.length ∧ q = 1 + P + (E.take i).flatten.length ∧ q ≤ n ∧ Own wr w.heap.size 1 v4 i cells ∧ Away wr v4 cells (E.take i) ∧ Below w.heap.size w wr) (fun _ _ v6 _ _ => P - (intOf v6).toNat)
  case atStart => exact ⟨0, 1 + P, [], rfl, by go_num, Nat.zero_le _, Nat.zero_le _, by simp, by omega, Own.nil _ _ _, fun w' _ => by simpa using RowsOf.nil w', Below.refl _ _⟩
  case round =>
    obtain ⟨i, q, cells, rfl, rfl, hi, hiE, hq, hqn, ho, hr, hb⟩ := hrel
    have HQ := Lib.hid hq
    clear hq
    obtain ⟨a4, c4, rfl⟩ := ho.form
    have hcw := (hb.cell (p := ⟨b0, o0, none⟩) (lt_of_cell hc0)).trans hc0
    by_cases hiP : i = P
    · have hEl : E.length = i := by omega
      have HEL := Lib.hid hEl
      have hge : ¬ (i : Int) < P := by omega
      have hr2 := hr.rows
      rw [← hEl, List.take_length] at hr hr2
      rw [hEl] at hr
      have hlen2 : E.length ≤ i := by omega
      clear hEl hiP
      obtain ⟨LW, hLW⟩ : ∃ LW, LW = (writeL E).length := ⟨_, rfl⟩
      have hLW2 : LW ≤ 1 + E.length + E.flatten.length := by rw [hLW]; exact writeL_len E
      have HLW := Lib.hid hLW
      clear hLW
      go_wp2_with fail
      refine (rwrite_any a4 i c4 cells E wr ho.sl hr2 (by omega) (by omega)).mono ?_
      rintro e w2 ⟨v2, rfl, ho2, hb2⟩
      obtain ⟨a2, c2, rfl⟩ := ho2.form
      rw [← HLW.out] at ho2
      rw [← HLW.out]
      have ho3 := ho.below hb2
      have hr3 := hr.below hb2
      have hb3 := hb.trans (hb2.mono hb.size)
      clear hr2
      go_wp2_with fail
      refine (eqb_any a2 LW c2 _ n c (writeL E) p w2 ho2.sl (hp.below hb3) (by omega) (by omega)).mono ?_
      rintro e w3 ⟨rfl, hb4⟩
      replace ho3 := ho3.below hb4
      replace hr3 := hr3.below hb4
      replace hb3 := hb3.trans (hb4.mono hb3.size)
      have hok : Hid (readOk p = decide (writeL E = p)) := by
        show _ = _
        rw [readOk, HE.out, decide_eq_true (by have := HN.out; omega : p.length ≤ 248)]; rfl
      cases heq : decide (writeL E = p) with
      | true =>
        have hrl : Hid (readOk p = true ∧ readL p = E) := by
          have e1 : readOk p = true := by rw [hok.out, heq]
          exact ⟨e1, by rw [readL, if_pos e1, HE.out]⟩
        clear heq
        go_wp2_with fail
        go_ret2
        rw [hrl.out.1, hrl.out.2, HEL.out]
        exact ⟨_, cells, rfl, ho3, hr3, hb3⟩
      | false =>
        have hrl : Hid (readOk p = false ∧ readL p = []) := by
          have e1 : readOk p = false := by rw [hok.out, heq]
          exact ⟨e1, by rw [readL, e1]; rfl⟩
        clear heq
        go_wp2_with fail
        go_ret2
        rw [hrl.out.1, hrl.out.2]
        exact ⟨_, [], rfl, Own.nil _ _ _, fun w' _ => RowsOf.nil _, hb3⟩
    · have hlt : i < P := by omega
      have hlt' : (i : Int) < P := by omega
      obtain ⟨b1, o1, e1, hc1⟩ := (hp.below hb).byte (k := 1 + i) (by omega)
      cases e1
      have hat := HAt.out i hlt hiE
      rw [← HQ.out] at hat
      obtain ⟨m, hm⟩ : ∃ m, m = (p.getD (1 + i) 0).toNat := ⟨_, rfl⟩
      rw [← hm] at hat hc1
      have hm256 : m < 256 := by rw [hm]; exact (p.getD (1 + i) 0).toNat_lt
      clear hm
      by_cases hfit : n - q < m
      · have hX : readOk p = false := readOk_not (by have := hat.1 hfit; rw [← HE.out, ← HP.out]; omega)
        have HX : Hid (readOk p = false ∧ readL p = []) := ⟨hX, readL_not hX⟩
        have hfit' : (n : Int) - q < m := by omega
        clear hX hat
        go_wp2_with fail
        go_ret2
        rw [HX.out.1, HX.out.2]
        exact ⟨_, [], rfl, Own.nil _ _ _, fun w' _ => RowsOf.nil _, hb⟩
      · have hfit' : ¬ (n : Int) - q < m := by omega
        have HF := Lib.hid (hat.2 hfit)
        clear hat
        have hqm : q + m ≤ n := by omega
        have hcut := (hp.below hb).cut (l := q) (h := q + m) (m := c) (by omega) hqm (by omega) (Nat.le_refl _)
        rw [show q + m - q = m by omega, bvs_drop, bvs_take] at hcut
        have hiE2 : i < E.length := (List.getElem?_eq_some_iff.1 HF.out).1
        obtain ⟨r, hrd⟩ : ∃ r, r = (p.drop q).take m := ⟨_, rfl⟩
        have hrm : r.length = m := by rw [hrd, List.length_take, List.length_drop, HN.out]; omega
        rw [← hrd] at HF hcut
        have HS : Hid (E.take (i + 1) = E.take i ++ [r]) := by
          obtain ⟨hk, e⟩ := List.getElem?_eq_some_iff.1 HF.out
          show _ = _
          rw [List.take_succ_eq_append_getElem hk, e]
        have HQ2 : Hid (q + m = 1 + P + (E.take (i + 1)).flatten.length) := by
          show _ = _
          rw [flat_snoc E i r HF.out, List.length_append, hrm, HQ.out]; omega
        have HRM := Lib.hid hrm
        clear hrd hrm
        by_cases hcq : c = q
        · subst hcq
          rw [cutAddr, if_pos rfl, Nat.sub_self] at hcut
          go_wp2_with fail
          refine (copyb_any (some ⟨b0, o0, none⟩) m 0 r wr hcut).mono ?_
          rintro e w2 ⟨v2, rfl, ho2, hb2⟩
          obtain ⟨a2, c2, rfl⟩ := ho2.form
          have ho3 := ho.below hb2
          have hr3 := hr.below hb2
          have hb3 := hb.trans (hb2.mono hb.size)
          have hr4 := hr3.snoc ho2 HRM.out.symm (fun g h1 h2 => by have := ho.lives g h1; have := ho2.lt g h2; omega)
          have ho5 := ho3.alloc (.cells #[.slice a2 m c2] 22)
          have hs5 := Sl.one w2 (.slice a2 m c2) 22
          have hr5 := hr4.below ((Below.refl _ _).alloc (Nat.le_refl _) (.cells #[.slice a2 m c2] 22))
          have hb5 := hb3.alloc hb3.size (.cells #[.slice a2 m c2] 22)
          go_wp2_with (at_builtin; refine wpL_appendX etBB rfl _ _ rfl ho5 rfl hs5 rfl (by simp [Value.oneCell']) (by omega) (by simp [maxLen]; omega) hb5.size ?_; intro v4 w4 ho6 hg6 hv6; have hr6 := hr5.grown hg6 hv6; have hb6 := below_own hb5 ho5 hg6 (Nat.le_refl _) hb5.size; clear hg6 hv6)
          refine ⟨⟨i + 1, c + m, _, by go_num, by go_num, by omega, by omega, HQ2.out, hqm, ho6, ?_, hb6⟩, by simp [intOf]; omega⟩
          rw [HS.out]
          exact hr6
        · rw [cutAddr, if_neg hcq, Option.map_some, add_eq] at hcut
          go_wp2_with fail
          refine (copyb_any (some ⟨b0, o0 + q, none⟩) m (c - q) r wr hcut).mono ?_
          rintro e w2 ⟨v2, rfl, ho2, hb2⟩
          obtain ⟨a2, c2, rfl⟩ := ho2.form
          have ho3 := ho.below hb2
          have hr3 := hr.below hb2
          have hb3 := hb.trans (hb2.mono hb.size)
          have hr4 := hr3.snoc ho2 HRM.out.symm (fun g h1 h2 => by have := ho.lives g h1; have := ho2.lt g h2; omega)
          have ho5 := ho3.alloc (.cells #[.slice a2 m c2] 22)
          have hs5 := Sl.one w2 (.slice a2 m c2) 22
          have hr5 := hr4.below ((Below.refl _ _).alloc (Nat.le_refl _) (.cells #[.slice a2 m c2] 22))
          have hb5 := hb3.alloc hb3.size (.cells #[.slice a2 m c2] 22)
          go_wp2_with (at_builtin; refine wpL_appendX etBB rfl _ _ rfl ho5 rfl hs5 rfl (by simp [Value.oneCell']) (by omega) (by simp [maxLen]; omega) hb5.size ?_; intro v4 w4 ho6 hg6 hv6; have hr6 := hr5.grown hg6 hv6; have hb6 := below_own hb5 ho5 hg6 (Nat.le_refl _) hb5.size; clear hg6 hv6)
          refine ⟨⟨i + 1, q + m, _, by go_num, by go_num, by omega, by omega, HQ2.out, hqm, ho6, ?_, hb6⟩, by simp [intOf]; omega⟩
          rw [HS.out]
          exact hr6
end Go.Proofs.Ytafigfgcgnnbnaa
