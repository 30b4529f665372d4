/-
  DiskTorn, walked. Conditions: the slice reads as bytes.
-/
import Derived.Test.YtcocodpeigbdaaaDskW
namespace Go.Proofs.Ytcocodpeigbdaaa
open Go.RowKit
set_option linter.unusedVariables false
set_option linter.unusedSimpArgs false

/-! ### a disk whose power stays -/
theorem write_live {S : List (List UInt8)} {P : Pend} {n : Int} {k : Nat} {l : List UInt8} (hk : k < S.length) (hl : l.length ≤ 256) : writeE ⟨S, P, false, 0, n⟩ k l = 0 ∧ writeD ⟨S, P, false, 0, n⟩ k l = ⟨S, P ++ [(k, fullB l)], false, 0, n + 1⟩ := by
  have h1 : writeIs ⟨S, P, false, 0, n⟩ k l = true := by simp [writeIs, inD]; omega
  obtain ⟨h2, h3⟩ := writeE_yes h1
  rw [step_no (by omega)] at h3
  exact ⟨by rw [h2, h3]; rfl, h3⟩
theorem write_off {S : List (List UInt8)} {P : Pend} {n : Int} {s : Int} {l : List UInt8} (h : writeIs ⟨S, P, false, 0, n⟩ s l = false) : writeE ⟨S, P, false, 0, n⟩ s l = 1 ∧ writeD ⟨S, P, false, 0, n⟩ s l = ⟨S, P, false, 0, n⟩ := writeE_no h
theorem bar_live {S : List (List UInt8)} {P : Pend} {n : Int} : barrierE ⟨S, P, false, 0, n⟩ = 0 ∧ barrierD ⟨S, P, false, 0, n⟩ = ⟨settleN allF S P P.length, [], false, 0, n + 1⟩ := by
  have h : stepD ⟨S, P, false, 0, n⟩ = ⟨S, P, false, 0, n + 1⟩ := step_no (by omega)
  unfold barrierE barrierD
  rw [h]
  exact ⟨rfl, rfl⟩
theorem on_live {S : List (List UInt8)} {P : Pend} {d : Bool} {a n : Int} {keep : List Int} {t : Int} : onE (offD ⟨S, P, d, a, n⟩) = 0 ∧ onD (offD ⟨S, P, d, a, n⟩) keep t = ⟨settleN (keepF keep t) S P P.length, [], false, 0, n⟩ := ⟨rfl, rfl⟩
theorem read_live {S : List (List UInt8)} {P : Pend} {a n : Int} {k : Nat} (hk : k < S.length) : readE ⟨S, P, false, a, n⟩ k = (if pickN S P k P.length = [] then 5 else 0) ∧ readB ⟨S, P, false, a, n⟩ k = pickN S P k P.length := by
  have h := readE_in (S := S) (P := P) (a := a) (s := k) (k := n) (by simp [inD]; omega)
  rw [Int.toNat_natCast] at h
  exact h
theorem blankD_len (n : Nat) : (blankD n).length = n := List.length_replicate
theorem blankD_get {n i : Nat} (h : i < n) : (blankD n).getD i [] = List.replicate 256 0 := by
  rw [blankD, List.getD_eq_getElem?_getD, List.getElem?_replicate, if_pos h]; rfl
theorem rep_ne : ¬ (List.replicate 256 (0 : UInt8) = []) := by
  rw [List.replicate_succ]; exact List.cons_ne_nil _ _
theorem fullB_ne {l : List UInt8} (h : l.length ≤ 256) : ¬ fullB l = [] := fun e => by
  have := fullB_len h
  rw [e] at this
  cases this
theorem getD_set_eq {S : List (List UInt8)} {k : Nat} {l : List UInt8} (h : k < S.length) : (S.set k l).getD k [] = l := by
  rw [List.getD_eq_getElem?_getD, List.getElem?_set_self h]; rfl
theorem getD_set_ne {S : List (List UInt8)} {k i : Nat} {l : List UInt8} (h : k ≠ i) : (S.set k l).getD i [] = S.getD i [] := by
  rw [List.getD_eq_getElem?_getD, List.getElem?_set_ne h, List.getD_eq_getElem?_getD]
def tn1 (k : Nat) : Dk := ⟨blankD 16, [(k, fullB [1])], false, 0, 1⟩
def tn3 (k : Nat) : Dk := ⟨(blankD 16).set k [], [], false, 0, 1⟩
def tn4 (k : Nat) (l : List UInt8) : Dk := ⟨(blankD 16).set k [], [(k, fullB l)], false, 0, 2⟩
def tn5 (k : Nat) (l : List UInt8) : Dk := ⟨((blankD 16).set k []).set k (fullB l), [], false, 0, 3⟩
theorem tn_1 {k : Nat} (hk : k < 16) : 0 = writeE wk0 k [1] ∧ tn1 k = writeD wk0 k [1] := by
  obtain ⟨h1, h2⟩ := write_live (S := blankD 16) (P := []) (n := 0) (k := k) (l := [1]) (by rw [blankD_len]; exact hk) (by decide)
  exact ⟨h1.symm, h2.symm⟩
theorem tn_3 (k : Nat) : 0 = onE (offD (tn1 k)) ∧ tn3 k = onD (offD (tn1 k)) [0] 0 := ⟨rfl, rfl⟩
theorem tn_r {k i : Nat} (hk : k < 16) (hi : i < 16) : (i = k → (5 : Int) = readE (tn3 k) i ∧ readB (tn3 k) i = []) ∧ (¬ i = k → (0 : Int) = readE (tn3 k) i) := by
  obtain ⟨h1, h2⟩ := read_live (S := (blankD 16).set k []) (P := []) (a := 0) (n := 1) (k := i) (by rw [List.length_set, blankD_len]; exact hi)
  refine ⟨fun e => ?_, fun e => ?_⟩
  · subst e
    have : pickN ((blankD 16).set i []) [] i ([] : Pend).length = [] := getD_set_eq (by rw [blankD_len]; exact hi)
    rw [if_pos this] at h1
    exact ⟨h1.symm, h2.trans this⟩
  · have : pickN ((blankD 16).set k []) [] i ([] : Pend).length = List.replicate 256 0 := (getD_set_ne (fun h => e h.symm)).trans (blankD_get hi)
    rw [this, if_neg rep_ne] at h1
    exact h1.symm
theorem tn_4 {k : Nat} {l : List UInt8} (hk : k < 16) (hl : l.length ≤ 256) : 0 = writeE (tn3 k) k l ∧ tn4 k l = writeD (tn3 k) k l ∧ 0 = readE (tn4 k l) k ∧ readB (tn4 k l) k = fullB l := by
  obtain ⟨h1, h2⟩ := write_live (S := (blankD 16).set k []) (P := []) (n := 1) (k := k) (l := l) (by rw [List.length_set, blankD_len]; exact hk) hl
  obtain ⟨h3, h4⟩ := read_live (S := (blankD 16).set k []) (P := [(k, fullB l)]) (a := 0) (n := 2) (k := k) (by rw [List.length_set, blankD_len]; exact hk)
  have h5 : pickN ((blankD 16).set k []) [(k, fullB l)] k ([(k, fullB l)] : Pend).length = fullB l := if_pos rfl
  rw [h5, if_neg (fullB_ne hl)] at h3
  exact ⟨h1.symm, h2.symm, h3.symm, h4.trans h5⟩
theorem tn_5 (k : Nat) (l : List UInt8) : 0 = barrierE (tn4 k l) ∧ tn5 k l = barrierD (tn4 k l) := ⟨rfl, rfl⟩
theorem tn_6 (k : Nat) (l : List UInt8) : 0 = onE (offD (tn5 k l)) ∧ tn5 k l = onD (offD (tn5 k l)) [] (-1) := ⟨rfl, rfl⟩
def tn7 (k : Nat) : Dk := ⟨(blankD 16).set k [], [], false, 0, 2⟩
theorem tn_7 (k : Nat) (l : List UInt8) : 0 = onE (offD (tn4 k l)) ∧ tn7 k = onD (offD (tn4 k l)) [] (-1) := by
  refine ⟨rfl, ?_⟩
  show tn7 k = ⟨settleN (keepF [] (-1)) ((blankD 16).set k []) [(k, fullB l)] 1, [], false, 0, 2⟩
  rw [settle_lose (by decide) (by simp)]
  rfl
theorem tn_8 {k : Nat} {l : List UInt8} (hk : k < 16) (hl : l.length ≤ 256) : 0 = readE (tn5 k l) k ∧ readB (tn5 k l) k = fullB l ∧ 5 = readE (tn7 k) k ∧ readB (tn7 k) k = [] := by
  have hl0 : ((blankD 16).set k []).length = 16 := by rw [List.length_set, blankD_len]
  obtain ⟨h1, h2⟩ := read_live (S := ((blankD 16).set k []).set k (fullB l)) (P := []) (a := 0) (n := 3) (k := k) (by rw [List.length_set, hl0]; exact hk)
  obtain ⟨h3, h4⟩ := read_live (S := (blankD 16).set k []) (P := []) (a := 0) (n := 2) (k := k) (by rw [hl0]; exact hk)
  have e1 : pickN (((blankD 16).set k []).set k (fullB l)) [] k ([] : Pend).length = fullB l := getD_set_eq (by rw [hl0]; exact hk)
  have e2 : pickN ((blankD 16).set k []) [] k ([] : Pend).length = [] := getD_set_eq (by rw [blankD_len]; exact hk)
  rw [e1, if_neg (fullB_ne hl)] at h1
  rw [if_pos e2] at h3
  exact ⟨h1.symm, h2.trans e1, h3.symm, h4.trans e2⟩
theorem tn_f {k : Nat} {l : List UInt8} (hk : k < 16) (hl : l.length ≤ 256) : (tn1 k).Fits 2 ∧ (offD (tn1 k)).Fits 4 ∧ (tn3 k).Fits 6 ∧ (tn4 k l).Fits 8 ∧ (offD (tn4 k l)).Fits 10 ∧ (tn5 k l).Fits 10 ∧ (offD (tn5 k l)).Fits 12 ∧ (tn7 k).Fits 12 := by
  have f1 : (tn1 k).Fits 2 := by rw [(tn_1 hk).2]; exact writeD_fits wk_f0 _ _
  have f2 := offD_fits f1
  have f3 : (tn3 k).Fits 6 := by rw [(tn_3 k).2]; exact onD_fits f2 _ _
  have f4 : (tn4 k l).Fits 8 := by rw [(tn_4 hk hl).2.1]; exact writeD_fits f3 _ _
  have f5 : (tn5 k l).Fits 10 := by rw [(tn_5 k l).2]; exact barrierD_fits f4
  refine ⟨f1, f2, f3, f4, offD_fits f4, f5, offD_fits f5, ?_⟩
  rw [(tn_7 k l).2]
  exact onD_fits (offD_fits f4) _ _
set_option maxRecDepth 100000 in
set_option maxHeartbeats 4000000 in
theorem diskTorn_walk (x : Nat) (hx : x < 256) (a : Option Addr) (n c : Nat) (l : List UInt8) (keep : Bool) (w : World) (hl : Sl w 1 (.slice a n c) n (bvs l)) :
    Calls Try.prog 3 #[.int .u8 (x : Int), .slice a n c, .bool keep] w fun e w' => e = .returned (.bool true) ∧ Below w.heap.size w w' := by
  have hn := hl.len
  have HN := Lib.hid hn.1
  clear hn
  by_cases h256 : 256 < n
  · have h' : (256 : Int) < n := by omega
    go_enter Try.func3, Try.ntmps3
    have hB0 := Below.refl w.heap.size w
    go_wp2_with fail
    refine (works_any w).mono ?_
    rintro e wz ⟨rfl, hbz⟩
    go_wp2_with fail
    go_ret
    exact ⟨rfl, (hB0).trans (hbz.mono (hB0).size)⟩
  have h' : ¬ (256 : Int) < n := by omega
  obtain ⟨k, hk⟩ : ∃ k, k = x % 16 := ⟨_, rfl⟩
  have hk16 : k < 16 := by omega
  have hke : (x : Int) % 16 = (k : Int) := by omega
  have HLl : Hid (l.length ≤ 256) := Lib.hid (by rw [HN.out]; omega)
  obtain ⟨f1, f2, f3, f4, f5, f6, f7, f8⟩ := tn_f (l := l) hk16 HLl.out
  have F := Lib.hid (And.intro f1 (And.intro f2 (And.intro f3 (And.intro f4 (And.intro f5 (And.intro f6 (And.intro f7 f8)))))))
  have T1 := Lib.hid (tn_1 hk16)
  have T3 := Lib.hid (tn_3 k)
  have T4 := Lib.hid (tn_4 (l := l) hk16 HLl.out)
  have T8 := Lib.hid (tn_8 (l := l) hk16 HLl.out)
  have HFL : Hid (fillIs l 256 = true ∧ fillL l 256 = fullB l ∧ (fullB l).length = 256) := Lib.hid ⟨(fill256 HLl.out).1, (fill256 HLl.out).2, fullB_len HLl.out⟩
  clear f1 f2 f3 f4 f5 f6 f7 f8 hk
  go_enter Try.func3, Try.ntmps3
  go_wp2_with fail
  refine (new16 w col0).mono ?_
  rintro e w1 ⟨b, rfl, col1, k1, h1⟩
  have hb2 : Below w1.heap.size w1 (w1.alloc (.cells #[.int .u8 1] 5)) := (Below.refl _ _).alloc (Nat.le_refl _) _
  have H2 := Lib.hid (h1.st (St.fresh hb2 (fun _ => False) col1) (fun h => h) (fun h => h))
  have K2 : Hid (St NZ col0 w col1 (w1.alloc (.cells #[.int .u8 1] 5))) := Lib.hid ((k1.mono (fun _ h => h.elim)).down hb2)
  have S2 : Hid (Sl (w1.alloc (.cells #[.int .u8 1] 5)) 1 (.slice (some ⟨w1.heap.size, 0, none⟩) 1 1) 1 (bvs [1])) := Lib.hid (Sl.one w1 (.int .u8 1) 5)
  clear hb2 h1 k1
  go_wp2_with fail
  refine (write_p 1 col1 b wk0 k 0 _ 1 1 [1] _ H2.out wk_f0 (by decide) S2.out 0 (Lib.hid T1.out.1) (tn1 k) (Lib.hid T1.out.2)).mono ?_
  rintro e w3 ⟨rfl, col3, k3, h3⟩
  have K3 := Lib.hid (K2.out.trans (k3.mono one_ne))
  clear k3 H2 K2 S2
  go_wp2_with fail
  refine (off_p 1 _ b (tn1 k) w3 h3 (offD (tn1 k)) (Lib.hid rfl)).mono ?_
  rintro e w4 ⟨⟨v4, rfl⟩, col4, k4, h4⟩
  have K4 := Lib.hid (K3.out.trans (k4.mono one_ne))
  have hb5 : Below w4.heap.size w4 (w4.alloc (.cells #[.int .i64 0] 3)) := (Below.refl _ _).alloc (Nat.le_refl _) _
  have H5 := Lib.hid (h4.st (St.new hb5 (fun _ => False) col4 0) (fun h => h) (fun h => h))
  have K5 := Lib.hid (K4.out.trans (St.new hb5 NZ col4 0))
  have S5 : Hid (Sl (w4.alloc (.cells #[.int .i64 0] 3)) 1 (.slice (some ⟨w4.heap.size, 0, none⟩) 1 1) 1 (ints [0])) := Lib.hid (Sl.one w4 (.int .i64 0) 3)
  have C5 : Hid (([0] : List Int) ≠ [] → ∀ g, (Value.slice (some ⟨w4.heap.size, 0, none⟩) 1 1).ownBlock = some g → ¬ recol col4 w4.heap.size 0 g = 1) := Lib.hid (fun _ g hg => by cases hg; rw [recol_ge (Nat.le_refl _)]; decide)
  clear hb5 h4 k4 h3 K3
  go_wp2_with fail
  refine (on_p 1 _ b (offD (tn1 k)) 4 _ H5.out F.out.2.1 (by decide) 0 _ 1 1 [0] S5.out C5.out 0 (Lib.hid T3.out.1) (tn3 k) (Lib.hid T3.out.2)).mono ?_
  rintro e w6 ⟨rfl, col6, k6, h6⟩
  have K6 := Lib.hid (K5.out.trans (k6.mono one_ne))
  have H6 := Lib.hid h6
  clear k6 H5 S5 K5 C5 K4 h6
  go_wp2_with fail
  go_loopw [10] (fun v10 wr => ∃ i col, i ≤ 16 ∧ v10 = .int .i64 (i : Nat) ∧ Hid (St NZ col0 w col wr) ∧ Hid (DkAt 74 1 col wr b (tn3 k))) (fun v10 _ => 16 - (intOf v10).toNat)
  case atStart => exact ⟨0, col6, by omega, rfl, K6, H6⟩
  case round =>
    obtain ⟨i, col, hi, rfl, K, H⟩ := hrel
    by_cases hi16 : i = 16
    rotate_left
    · have hlt : i < 16 := by omega
      have hlt' : (i : Int) < 16 := by omega
      have TR := Lib.hid (tn_r hk16 hlt)
      by_cases hik : i = k
      · subst hik
        have E5 := Lib.hid (TR.out.1 rfl)
        clear TR
        go_wp2_with fail
        refine (read_p 1 col b (tn3 i) i wr [] H.out (Nat.zero_lt_succ _) (Nat.zero_le _) 5 (Lib.hid E5.out.1) (Lib.hid E5.out.2.symm)).mono ?_
        rintro e w7 ⟨v7, rfl, ho7, hb7⟩
        go_wp2_with fail
        exact ⟨⟨i + 1, col, by omega, by go_num, Lib.hid (K.out.down hb7), Lib.hid (H.out.st (St.fresh hb7 (fun _ => False) col) (fun h => h) (fun h => h))⟩, by simp [intOf]; omega⟩
      · have e1 : ((i : Int) == (k : Int)) = false := by rw [beq_eq_false_iff_ne]; omega
        have e2 : ((i : Int) != (k : Int)) = true := by simp; omega
        have E0 := Lib.hid (TR.out.2 hik)
        clear TR hik
        go_wp2_with fail
        have hle : (readB (tn3 k) i).length ≤ 256 := readB_le F.out.2.2.1.fit _
        refine (read_p 1 col b (tn3 k) i wr (readB (tn3 k) i) H.out (Nat.zero_lt_succ _) hle 0 (Lib.hid E0.out) (Lib.hid rfl)).mono ?_
        rintro e w7 ⟨v7, rfl, ho7, hb7⟩
        go_wp2_with fail
        exact ⟨⟨i + 1, col, by omega, by go_num, Lib.hid (K.out.down hb7), Lib.hid (H.out.st (St.fresh hb7 (fun _ => False) col) (fun h => h) (fun h => h))⟩, by simp [intOf]; omega⟩
    subst hi16
    clear K6 H6
    have hl1 := hl.below K.out.below
    go_wp2_with fail
    refine (rfill_any a n c l wr 256 hl1).mono ?_
    rintro e w7 ⟨v7, rfl, ho7, hb7⟩
    rw [HFL.out.2.1, HFL.out.2.2] at ho7
    rw [HFL.out.1]
    obtain ⟨a7, c7, rfl⟩ := ho7.form
    have H7 := Lib.hid (H.out.st (St.new hb7 (fun _ => False) col 9) (fun h => h) (fun h => h))
    have K7 := Lib.hid (K.out.trans (St.new hb7 NZ col 9))
    have O7 : Hid (OwnC (recol col wr.heap.size 9) w7 9 1 (.slice a7 256 c7) 256 (bvs (fullB l))) := Lib.hid (OwnC.new ho7)
    have hl7 := hl1.below hb7
    clear H K ho7 hl1 hb7
    go_wp2_with fail
    refine (copyb_any a n c l w7 hl7).mono ?_
    rintro e w8 ⟨v8, rfl, ho8, hb8⟩
    obtain ⟨a8, c8, rfl⟩ := ho8.form
    have k8 : St (fun _ => False) (recol col wr.heap.size 9) w7 (recol col wr.heap.size 9) w8 := St.fresh hb8 _ _
    have H8 := Lib.hid (H7.out.st k8 (fun h => h) (fun h => h))
    have K8 := Lib.hid (K7.out.down hb8)
    have O8 := Lib.hid (O7.out.st k8 (fun h => h))
    clear H7 K7 O7 hb8 k8
    go_wp2_with fail
    refine (write_p 1 _ b (tn3 k) k 6 a8 n c8 l w8 H8.out F.out.2.2.1 (by decide) ho8.sl 0 (Lib.hid T4.out.1) (tn4 k l) (Lib.hid T4.out.2.1)).mono ?_
    rintro e w9 ⟨rfl, col9, k9, h9⟩
    have K9 := Lib.hid (K8.out.trans (k9.mono one_ne))
    have O9 := Lib.hid (O8.out.st k9 (by decide))
    have H9 := Lib.hid h9
    clear H8 K8 O8 k9 ho8 h9
    go_wp2_with fail
    refine (read_ok 1 col9 b (tn4 k l) 8 k w9 (fullB l) H9.out F.out.2.2.2.1 (by decide) T4.out.2.2.1 T4.out.2.2.2 HFL.out.2.2).mono ?_
    rintro e w10 ⟨a10, c10, rfl, ho10, hb10⟩
    have k10 : St (fun _ => False) col9 w9 col9 w10 := St.fresh hb10 _ _
    have H10 := Lib.hid (H9.out.st k10 (fun h => h) (fun h => h))
    have K10 := Lib.hid (K9.out.down hb10)
    have O10 := Lib.hid (O9.out.st k10 (fun h => h))
    clear H9 K9 O9 k10 hb10
    go_wp2_with fail
    refine (eqb_any a10 256 c10 a7 256 c7 (fullB l) (fullB l) w10 ho10.sl O10.out.1.sl (by decide) (by decide)).mono ?_
    rintro e w11 ⟨rfl, hb11⟩
    rw [decide_eq_true rfl]
    have k11 : St (fun _ => False) col9 w10 col9 w11 := St.fresh hb11 _ _
    have H11 := Lib.hid (H10.out.st k11 (fun h => h) (fun h => h))
    have K11 := Lib.hid (K10.out.down hb11)
    have O11 := Lib.hid (O10.out.st k11 (fun h => h))
    clear H10 K10 O10 k11 hb11 ho10
    cases keep with
    | true =>
      go_wp2_with fail
      refine (barrier_p 1 col9 b (tn4 k l) 8 w11 H11.out F.out.2.2.2.1 (by decide) 0 (Lib.hid (tn_5 k l).1) (tn5 k l) (Lib.hid (tn_5 k l).2)).mono ?_
      rintro e w12 ⟨rfl, col12, k12, h12⟩
      have K12 := Lib.hid (K11.out.trans (k12.mono one_ne))
      have O12 := Lib.hid (O11.out.st k12 (by decide))
      clear H11 K11 O11 k12
      go_wp2_with fail
      refine (off_p 1 _ b (tn5 k l) w12 h12 (offD (tn5 k l)) (Lib.hid rfl)).mono ?_
      rintro e w13 ⟨⟨v13, rfl⟩, col13, k13, h13⟩
      have K13 := Lib.hid (K12.out.trans (k13.mono one_ne))
      have O13 := Lib.hid (O12.out.st k13 (by decide))
      clear h12 K12 O12 k13
      go_wp2_with fail
      refine (on_p 1 _ b (offD (tn5 k l)) 12 w13 h13 F.out.2.2.2.2.2.2.1 (by decide) (-1) none 0 0 [] (Sl.nil _ _) (fun h => absurd rfl h) 0 (Lib.hid (tn_6 k l).1) (tn5 k l) (Lib.hid (tn_6 k l).2)).mono ?_
      rintro e w14 ⟨rfl, col14, k14, h14⟩
      have K14 := Lib.hid (K13.out.trans (k14.mono one_ne))
      have O14 := Lib.hid (O13.out.st k14 (by decide))
      clear h13 K13 O13 k14
      go_wp2_with fail
      refine (read_ok 1 col14 b (tn5 k l) 10 k w14 (fullB l) h14 F.out.2.2.2.2.2.1 (by decide) T8.out.1 T8.out.2.1 HFL.out.2.2).mono ?_
      rintro e w15 ⟨a15, c15, rfl, ho15, hb15⟩
      have K15 := Lib.hid (K14.out.down hb15)
      have O15 := Lib.hid (O14.out.st (St.fresh hb15 (fun _ => False) col14) (fun h => h))
      clear h14 K14 O14 hb15
      go_wp2_with fail
      refine (eqb_any a15 256 c15 a7 256 c7 (fullB l) (fullB l) w15 ho15.sl O15.out.1.sl (by decide) (by decide)).mono ?_
      rintro e w16 ⟨rfl, hb16⟩
      rw [decide_eq_true rfl]
      have hB := (K15.out.down hb16).below
      go_wp2_with fail
      refine (works_any w16).mono ?_
      rintro e wz ⟨rfl, hbz⟩
      go_wp2_with fail
      go_ret
      exact ⟨rfl, (hB).trans (hbz.mono (hB).size)⟩
    | false =>
      go_wp2_with fail
      refine (off_p 1 _ b (tn4 k l) w11 H11.out (offD (tn4 k l)) (Lib.hid rfl)).mono ?_
      rintro e w13 ⟨⟨v13, rfl⟩, col13, k13, h13⟩
      have K13 := Lib.hid (K11.out.trans (k13.mono one_ne))
      clear H11 K11 O11 k13
      go_wp2_with fail
      refine (on_p 1 _ b (offD (tn4 k l)) 10 w13 h13 F.out.2.2.2.2.1 (by decide) (-1) none 0 0 [] (Sl.nil _ _) (fun h => absurd rfl h) 0 (Lib.hid (tn_7 k l).1) (tn7 k) (Lib.hid (tn_7 k l).2)).mono ?_
      rintro e w14 ⟨rfl, col14, k14, h14⟩
      have K14 := Lib.hid (K13.out.trans (k14.mono one_ne))
      clear h13 K13 k14
      go_wp2_with fail
      refine (read_p 1 col14 b (tn7 k) k w14 [] h14 (Nat.zero_lt_succ _) (Nat.zero_le _) 5 (Lib.hid T8.out.2.2.1) (Lib.hid T8.out.2.2.2.symm)).mono ?_
      rintro e w15 ⟨v15, rfl, ho15, hb15⟩
      have hB := (K14.out.down hb15).below
      go_wp2_with fail
      refine (works_any w15).mono ?_
      rintro e wz ⟨rfl, hbz⟩
      go_wp2_with fail
      go_ret
      exact ⟨rfl, (hB).trans (hbz.mono (hB).size)⟩
theorem wf_u8 {z : Int} (h : (Lit.int .u8 z).wf = true) : ∃ x : Nat, z = x ∧ x < 256 := by
  have e8 : IntKind.u8.min = 0 := by decide
  have e9 : IntKind.u8.max = 255 := by decide
  simp [Lit.wf, e8, e9] at h
  exact ⟨z.toNat, by omega, by omega⟩
theorem opensU8 : Opens Try.prog 5 1 VByte := opens_byte Try.underlying5 (by kernel_rfl)
theorem diskTorn_go (x : Int) (hx : (Lit.int .u8 x).wf = true) (a : Option Addr) (n c : Nat) (l : List UInt8) (keep : Bool) (w : World) (hl : SlOf VByte 1 w (.slice a n c) l) :
    Calls Try.prog 3 #[.int .u8 x, .slice a n c, .bool keep] w fun e w' => e = .returned (.bool true) ∧ Below w.heap.size w w' := by
  obtain ⟨k, rfl, hk⟩ := wf_u8 hx
  have hb := hl.bytes
  rw [← hl.len.1] at hb
  exact diskTorn_walk k hk a n c l keep w hb
end Go.Proofs.Ytcocodpeigbdaaa
