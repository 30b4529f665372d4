/-
  Read of a disk, the program's and the document's. Conditions: the disk reads as one.
-/
import Derived.Test.YtchjfmgfoifbcaaDskA
import Derived.Test.YtchjfmgfoifbcaaRef00
namespace Go.Proofs.Ytchjfmgfoifbcaa
open Go.RowKit
set_option linter.unusedVariables false
set_option linter.unusedSimpArgs false
set_option maxRecDepth 100000

theorem DkIn.sAt {e : TypeId} {c : Nat} {col : Nat → Nat} {w : World} {b : Nat} {D : Dk} {aS : Option Addr} {cS : Nat} {aP : Option Addr} {cP : Nat} {sv pv : List Value} (h : DkIn e c col w b D aS cS aP cP sv pv) (i : Nat) (hi : i < D.S.length) :
    ∃ g off av cv, aS = some ⟨g, off, none⟩ ∧ w.cell? ⟨g, off + i, none⟩ = some (.slice av (D.S.getD i []).length cv) ∧ Imm col w (.slice av (D.S.getD i []).length cv) (D.S.getD i []) := by
  obtain ⟨g, off, u, ha, hu, hc⟩ := h.so.1.sl.at (k := i) (by omega)
  obtain ⟨v, hv, hm⟩ := h.si.get i hi
  rw [hu] at hv; cases hv
  obtain ⟨av, cv, rfl⟩ := hm.form
  exact ⟨g, off, av, cv, ha, hc, hm⟩
theorem DkIn.pAt {e : TypeId} {c : Nat} {col : Nat → Nat} {w : World} {b : Nat} {D : Dk} {aS : Option Addr} {cS : Nat} {aP : Option Addr} {cP : Nat} {sv pv : List Value} (h : DkIn e c col w b D aS cS aP cP sv pv) (i : Nat) (hi : i < D.P.length) :
    ∃ g off av cv, aP = some ⟨g, off, none⟩ ∧ w.cell? ⟨g, off + i * 2, none⟩ = some (.int .i64 ((penAt D.P i).1 : Int)) ∧ w.cell? ⟨g, off + i * 2 + 1, none⟩ = some (.slice av (penAt D.P i).2.length cv) ∧ Imm col w (.slice av (penAt D.P i).2.length cv) (penAt D.P i).2 := by
  obtain ⟨g, off, u, ha, hu, hc⟩ := h.po.1.sl.at (k := i * 2) (by omega)
  obtain ⟨g', off', u', ha', hu', hc'⟩ := h.po.1.sl.at (k := i * 2 + 1) (by omega)
  rw [ha] at ha'; cases ha'
  obtain ⟨v, h0, hv, hm⟩ := h.pi.get i hi
  rw [hu] at h0; cases h0
  rw [hu'] at hv; cases hv
  obtain ⟨av, cv, rfl⟩ := hm.form
  exact ⟨g, off, av, cv, ha, hc, by rw [Nat.add_assoc]; exact hc', hm⟩
theorem readE_dead {S : List (List UInt8)} {P : Pend} {a s : Int} {k : Int} : readE ⟨S, P, true, a, k⟩ s = 4 ∧ readB ⟨S, P, true, a, k⟩ s = [] := ⟨by simp [readE], by simp [readB]⟩
theorem readE_out {S : List (List UInt8)} {P : Pend} {a s : Int} {k : Int} (h : inD ⟨S, P, false, a, k⟩ s = false) : readE ⟨S, P, false, a, k⟩ s = 1 ∧ readB ⟨S, P, false, a, k⟩ s = [] := ⟨by simp [readE, h], by simp [readB, h]⟩
theorem readE_in {S : List (List UInt8)} {P : Pend} {a s : Int} {k : Int} (h : inD ⟨S, P, false, a, k⟩ s = true) : readE ⟨S, P, false, a, k⟩ s = (if pickN S P s.toNat P.length = [] then 5 else 0) ∧ readB ⟨S, P, false, a, k⟩ s = pickN S P s.toNat P.length := ⟨by unfold readE; rw [if_neg (by simp), h, if_neg (by simp)]; rfl, by unfold readB; rw [if_neg (by simp), h, if_neg (by simp)]; rfl⟩

set_option maxHeartbeats 1000000 in
theorem read_p (c : Nat) (col : Nat → Nat) (b : Nat) (D : Dk) (s : Int) (w : World) (B : List UInt8) (h : DkAt 62 c col w b D) (hF : D.P.length < 1073741824) (hBl : B.length ≤ 256) (E : Int) (hE : Hid (E = readE D s)) (hB : Hid (B = readB D s)) :
    Calls Try.prog 54 #[.pointer (some ⟨b, 0, none⟩), .int .i64 s] w fun e w' => ∃ v, e = .returned (.tuple #[v, .int .i64 E]) ∧ Own w' w.heap.size 1 v B.length (bvs B) ∧ Below w.heap.size w w' := by
  obtain ⟨aS, cS, aP, cP, sv, pv, h⟩ := h
  obtain ⟨S, P, dead, armed, steps⟩ := D
  simp only at hF
  have hr := h.row
  simp only at hr
  have c0 : w.cell? ⟨b, 0, none⟩ = some (.slice aS S.length cS) := hr.cell 0
  have c1 : w.cell? ⟨b, 1, none⟩ = some (.slice aP P.length cP) := hr.cell 1
  have c2 : w.cell? ⟨b, 2, none⟩ = some (.bool dead) := hr.cell 2
  have H := Lib.hid h
  clear h hr
  cases dead with
  | true =>
    obtain rfl : E = 4 := hE.out.trans readE_dead.1
    obtain rfl : B = [] := hB.out.trans readE_dead.2
    clear hE hB
    go_enter Try.func54, Try.ntmps54
    go_wp2_with fail
    refine (power_d b true w c2).mono ?_
    rintro e w5 ⟨rfl, rfl⟩
    go_wp2_with fail
    go_ret2
    exact ⟨_, rfl, Own.nil _ _ _, Below.refl _ _⟩
  | false =>
    cases hin : inD ⟨S, P, false, armed, steps⟩ s with
    | false =>
      obtain rfl : E = 1 := hE.out.trans (readE_out hin).1
      obtain rfl : B = [] := hB.out.trans (readE_out hin).2
      have hin2 : (decide (0 ≤ s) && decide (s < (S.length : Int))) = false := hin
      have HI := Lib.hid hin2
      clear hE hB hin hin2
      go_enter Try.func54, Try.ntmps54
      go_wp2_with fail
      refine (power_d b false w c2).mono ?_
      rintro e w5 ⟨rfl, rfl⟩
      go_wp2_with fail
      refine (within_any b aS S.length cS s w c0).mono ?_
      rintro e w5 ⟨rfl, rfl⟩
      rw [HI.out]
      go_wp2_with fail
      go_ret2
      exact ⟨_, rfl, Own.nil _ _ _, Below.refl _ _⟩
    | true =>
      have hin2 : (decide (0 ≤ s) && decide (s < (S.length : Int))) = true := hin
      have HE : Hid (E = if B = [] then 5 else 0) := by show _ = _; rw [hE.out, hB.out, (readE_in hin).2]; exact (readE_in hin).1
      have HB := Lib.hid (hB.out.trans (readE_in hin).2)
      have HI := Lib.hid hin2
      obtain ⟨k, rfl, hk⟩ := inD_nat hin
      rw [Int.toNat_natCast] at HB
      simp only at hk
      have hk' : (k : Int) < S.length := by omega
      clear hE hB hin hin2
      obtain ⟨g, off, av, cv, rfl, hc, him⟩ := H.out.sAt k hk
      simp only at hc him
      have HM := Lib.hid him
      obtain ⟨n0, hn0⟩ : ∃ n, n = (S.getD k []).length := ⟨_, rfl⟩
      rw [← hn0] at hc HM
      have HN0 := Lib.hid hn0
      clear him hn0
      go_enter Try.func54, Try.ntmps54
      go_wp2_with fail
      refine (power_d b false w c2).mono ?_
      rintro e w5 ⟨rfl, rfl⟩
      go_wp2_with fail
      refine (within_any b _ S.length cS k w c0).mono ?_
      rintro e w5 ⟨rfl, rfl⟩
      rw [HI.out]
      go_wp2_with fail
      go_loopw [7, 31] (fun v7 v31 wr => ∃ i a n c', i ≤ P.length ∧ v31 = .int .i64 (i : Nat) ∧ v7 = .slice a n c' ∧ n = (pickN S P k i).length ∧ Imm col wr (.slice a n c') (pickN S P k i) ∧ Below w.heap.size w wr) (fun _ v31 _ => P.length - (intOf v31).toNat)
      case atStart => exact ⟨0, av, n0, cv, Nat.zero_le _, rfl, rfl, HN0.out, HM.out, Below.refl _ _⟩
      case round =>
        obtain ⟨i, a, n, c', hi, rfl, rfl, hn, hm, hb⟩ := hrel
        have HN := Lib.hid hn
        have HM2 := Lib.hid hm
        clear hn hm
        by_cases hiP : i = P.length
        · subst hiP
          have hbl : B.length = n := by rw [HN.out, HB.out]
          by_cases h0 : n = 0
          · subst h0
            obtain rfl : B = [] := List.eq_nil_of_length_eq_zero hbl
            obtain rfl : E = 5 := HE.out.trans (by simp)
            clear hbl
            go_wp2_with fail
            go_ret2
            exact ⟨_, rfl, Own.nil _ _ _, hb⟩
          · have hne : B ≠ [] := fun e => h0 (by rw [← hbl, e]; rfl)
            obtain rfl : E = 0 := HE.out.trans (by simp [hne])
            have h0' : ((n : Int) == 0) = false := by rw [beq_eq_false_iff_ne]; omega
            have HMB : Hid (Sl wr 1 (.slice a n c') n (bvs B)) := by show Sl _ _ _ _ _; rw [HB.out]; have := HM2.out.1; rw [← HN.out] at this; exact this
            have hle : n ≤ 140737488355328 := by omega
            have HBL := Lib.hid hbl
            clear hbl h0
            go_wp2_with fail
            refine (clone_any a n c' B wr HMB.out hle).mono ?_
            rintro e w6 ⟨v, rfl, hov, hbv⟩
            go_wp2_with fail
            go_ret2
            refine ⟨_, rfl, ?_, hb.trans (hbv.mono hb.size)⟩
            rw [HBL.out]
            exact hov.mono hb.size
        · have hlt : i < P.length := by omega
          have hlt' : (i : Int) < P.length := by omega
          obtain ⟨g2, off2, av2, cv2, rfl, hp0, hp1, hpm⟩ := H.out.pAt i hlt
          simp only at hp0 hp1 hpm
          have HPM := Lib.hid (hpm.st (St.fresh hb (fun _ => False) col) (fun h => h))
          replace hp0 := (hb.cell (p := ⟨g2, off2 + i * 2, none⟩) (lt_of_cell hp0)).trans hp0
          replace hp1 := (hb.cell (p := ⟨g2, off2 + i * 2 + 1, none⟩) (lt_of_cell hp1)).trans hp1
          obtain ⟨x, hx⟩ : ∃ x, x = (penAt P i).1 := ⟨_, rfl⟩
          obtain ⟨n2, hn2⟩ : ∃ x, x = (penAt P i).2.length := ⟨_, rfl⟩
          rw [← hx] at hp0
          rw [← hn2] at hp1 HPM
          have HX := Lib.hid hx
          have HN2 := Lib.hid hn2
          clear hx hn2 hpm
          by_cases he : x = k
          · have he' : ((x : Int) == (k : Int)) = true := by simp; omega
            have HPK : Hid (pickN S P k (i + 1) = (penAt P i).2) := by show _ = _; rw [pickN, if_pos (by rw [← HX.out]; exact he)]
            clear he
            go_wp2_with fail
            refine ⟨⟨i + 1, av2, n2, cv2, hlt, by go_num, rfl, by rw [HPK.out]; exact HN2.out, ?_, hb.alloc hb.size _⟩, by simp [intOf]; omega⟩
            rw [HPK.out]
            exact HPM.out.st (St.fresh ((Below.refl _ _).alloc (Nat.le_refl _) _) (fun _ => False) col) (fun h => h)
          · have he' : ((x : Int) == (k : Int)) = false := by rw [beq_eq_false_iff_ne]; omega
            have HPK : Hid (pickN S P k (i + 1) = pickN S P k i) := by show _ = _; rw [pickN, if_neg (by rw [← HX.out]; exact he)]
            clear he
            go_wp2_with fail
            refine ⟨⟨i + 1, a, n, c', hlt, by go_num, rfl, by rw [HPK.out]; exact HN.out, ?_, hb.alloc hb.size _⟩, by simp [intOf]; omega⟩
            rw [HPK.out]
            exact HM2.out.st (St.fresh ((Below.refl _ _).alloc (Nat.le_refl _) _) (fun _ => False) col) (fun h => h)
end Go.Proofs.Ytchjfmgfoifbcaa
