/-
  block's Open, walked.
-/
import Derived.Test.YtobagfndagjajaaDoorBlkC
import Derived.Test.YtobagfndagjajaaDoorRound
import Derived.Laws.Cover3
namespace Go.Proofs.YtobagfndagjajaaDoor
open Go.RowKit
set_option linter.unusedVariables false
set_option linter.unusedSimpArgs false

/-- the number of bytes that a block says it has -/
def opN (b : List UInt8) : Nat := getN b 2 2
def opK (b : List UInt8) : UInt8 := b.getD 0 0
def opOk (b : List UInt8) : Bool :=
  decide (b.length = 256) && (decide (sumN (b.take 252) = getN b 252 4) && (!decide (opK b = 0) && (decide (opN b ≤ 248) && (decide (b.getD 1 0 = 0) && decide ((trimL ((b.take 252).drop (4 + opN b))).length = 0)))))
def opB (b : List UInt8) : List UInt8 := (b.drop 4).take (opN b)
structure OpIs (b : List UInt8) (K : Nat) (L : List UInt8) (N : Nat) (E : Int) : Prop where
  iK : K = if opOk b then (opK b).toNat else 0
  iL : L = if opOk b then opB b else []
  iN : N = L.length
  iE : E = if opOk b then 0 else 8
theorem OpIs.no {b : List UInt8} {K : Nat} {L : List UInt8} {N : Nat} {E : Int} (h : OpIs b K L N E) (hn : opOk b = false) : K = 0 ∧ L = [] ∧ N = 0 ∧ E = 8 := by
  obtain ⟨h1, h2, h3, h4⟩ := h
  rw [hn] at h1 h2 h4
  exact ⟨h1, h2, by rw [h3, h2]; rfl, h4⟩
theorem OpIs.yes {b : List UInt8} {K : Nat} {L : List UInt8} {N : Nat} {E : Int} (h : OpIs b K L N E) (hn : opOk b = true) : K = (opK b).toNat ∧ L = opB b ∧ N = (opB b).length ∧ E = 0 := by
  obtain ⟨h1, h2, h3, h4⟩ := h
  rw [hn] at h1 h2 h4
  exact ⟨h1, h2, by rw [h3, h2]; rfl, h4⟩
theorem getN_at4 (b : List UInt8) (p k : Nat) (hk : saysB k = true) (h : p + k ≤ b.length) : getN b p k = leN ((b.drop p).take k) := by
  have hc : cutIs b p k = true := by
    simp only [cutIs, Bool.and_eq_true, decide_eq_true_eq]
    omega
  rw [getN, getIs, hc, hk]
  simp [cutL, hc]
theorem leN_two (b : List UInt8) (p : Nat) (h : p + 2 ≤ b.length) : leN ((b.drop p).take 2) = (b.getD p 0).toNat + 256 * (b.getD (p + 1) 0).toNat := by
  have h1 : p < b.length := by omega
  have h2 : p + 1 < b.length := by omega
  have e : (b.drop p).take 2 = [b[p], b[p + 1]] := by rw [List.drop_eq_getElem_cons h1, List.take_succ_cons, List.drop_eq_getElem_cons h2, List.take_succ_cons, List.take_zero]
  rw [e]
  simp [leN, h1, h2]
theorem getN_lt2 (b : List UInt8) (p : Int) : getN b p 2 < 65536 := by
  unfold getN
  split
  · rename_i h
    have h1 := leN_lt (cutL b p 2)
    have h2 : (cutL b p 2).length ≤ 2 := by
      unfold cutL
      split
      · simp; omega
      · simp
    have : 256 ^ (cutL b p 2).length ≤ 256 ^ 2 := Nat.pow_le_pow_right (by decide) h2
    omega
  · omega
theorem eqA4 (a b c d a' b' c' d' : Int) (w : World) : (Op.equalIn 10000 47 (.agg #[.int .u8 a, .int .u8 b, .int .u8 c, .int .u8 d]) (.agg #[.int .u8 a', .int .u8 b', .int .u8 c', .int .u8 d'])).run Tryd.prog w = .ok (a == a' && (b == b' && (c == c' && d == d'))) w := by
  have u3 := Tryd.underlying5
  have a3 := Tryd.isAgg5
  have z3 := Tryd.sizeOf5
  rw [show (10000 : Nat) = 9999 + 1 from rfl, Op.equalIn]
  simp only [Sem.run_bind, run_underlying Tryd.underlying47, Result.andThen_ok]
  simp only [Std.Legacy.Range.forIn_eq_forIn_range', Std.Legacy.Range.size, Nat.sub_zero, Nat.add_sub_cancel, Nat.div_one, List.range'_succ, List.range'_zero, List.forIn_cons, List.forIn_nil]
  go_simp
  by_cases h1 : a = a' <;> by_cases h2 : b = b' <;> by_cases h3 : c = c' <;> by_cases h4 : d = d' <;> simp [h1, h2, h3, h4]
theorem bounds_open {P : Program} (w : World) (c x : Nat) (h : 4 + x ≤ 252) (hc : 252 ≤ c) : (Instr.sliceBounds true 256 c (some (.int .i64 (4 + (x : Int)))) (some (.int .i64 252)) none).run P w = .ok (4 + x, 252, c) w := by
  have := bounds_lh (P := P) w 256 c (4 + x) 252 .i64 .i64 h hc
  rw [show ((4 + x : Nat) : Int) = 4 + (x : Int) by omega] at this
  exact this
set_option maxHeartbeats 8000000 in
theorem open_p (a : Option Addr) (n c : Nat) (b : List UInt8) (w : World) (hl : Sl w 1 (.slice a n c) n (bvs b)) (K : Nat) (L : List UInt8) (N : Nat) (E : Int) (H : OpIs b K L N E) :
    Calls Tryd.prog 16 #[.slice a n c] w fun e w' => ∃ v, e = .returned (.tuple #[.int .u8 (K : Int), v, .int .i64 E]) ∧ Own w' w.heap.size 1 v N (bvs L) ∧ Below w.heap.size w w' := by
  have HN := Lib.hid hl.len.1
  have hnm := hl.len.2.1
  have hnc := hl.len.2.2.1
  have HH := Lib.hid H
  clear H
  by_cases h256 : n = 256
  rotate_left
  · have hno : Hid (opOk b = false) := by show _ = _; rw [opOk, decide_eq_false (by rw [HN.out]; exact h256)]; rfl
    have hi : ((n : Int) == 256) = false := by rw [beq_eq_false_iff_ne]; omega
    obtain ⟨e1, e2, e3, e4⟩ := HH.out.no hno.out
    rw [e1, e2, e3, e4]
    go_enter Tryd.func16, Tryd.ntmps16
    go_wp2_with fail
    try simp only [Exit.inBlock, Exit.then]
    refine bodyPost_ret (results_tmp3 rfl _ _ _) rfl ?_
    exact ⟨_, rfl, Own.nil _ _ _, Below.refl _ _⟩
  subst h256
  obtain ⟨b1, o1, rfl, _⟩ := hl.byte (k := 0) (by omega)
  obtain ⟨G, hG⟩ : ∃ G, G = getN b 252 4 := ⟨_, rfl⟩
  obtain ⟨m, hm⟩ : ∃ m, m = opN b := ⟨_, rfl⟩
  have hm9 : m < 65536 := by rw [hm, opN]; exact getN_lt2 b 2
  obtain ⟨k, hk⟩ : ∃ k, k = (opK b).toNat := ⟨_, rfl⟩
  have hk9 : k < 256 := by rw [hk]; exact UInt8.toNat_lt _
  obtain ⟨x1, hx1⟩ : ∃ x, x = (b.getD 1 0).toNat := ⟨_, rfl⟩
  obtain ⟨x2, hx2⟩ : ∃ x, x = (b.getD 2 0).toNat := ⟨_, rfl⟩
  obtain ⟨x3, hx3⟩ : ∃ x, x = (b.getD 3 0).toNat := ⟨_, rfl⟩
  have hx19 : x1 < 256 := by rw [hx1]; exact UInt8.toNat_lt _
  have hx29 : x2 < 256 := by rw [hx2]; exact UInt8.toNat_lt _
  have hx39 : x3 < 256 := by rw [hx3]; exact UInt8.toNat_lt _
  have hmx : m = x2 + 256 * x3 := by
    rw [hm, opN, show (2 : Int) = ((2 : Nat) : Int) from rfl, getN_at4 b 2 2 rfl (by rw [HN.out]; omega), hx2, hx3]
    exact leN_two b 2 (by rw [HN.out]; omega)
  obtain ⟨sm, hsm⟩ : ∃ s, s = sumN (b.take 252) := ⟨_, rfl⟩
  have hsm9 : sm < 4294967296 := by rw [hsm]; exact sumN_lt _
  obtain ⟨tz, htz⟩ : ∃ z, z = (trimL ((b.take 252).drop (4 + m))).length := ⟨_, rfl⟩
  have HOK : Hid (opOk b = (decide (sm = G) && (!decide (k = 0) && (decide (m ≤ 248) && (decide (x1 = 0) && decide (tz = 0)))))) := by
    show _ = _
    have e1 : decide (opK b = 0) = decide (k = 0) := by rw [hk]; exact decide_eq_decide.2 ⟨fun h => by rw [h]; rfl, fun h => by rw [← UInt8.toNat_inj, h]; rfl⟩
    have e2 : decide (b.getD 1 0 = 0) = decide (x1 = 0) := by rw [hx1]; exact decide_eq_decide.2 ⟨fun h => by rw [h]; rfl, fun h => by rw [← UInt8.toNat_inj, h]; rfl⟩
    rw [opOk, decide_eq_true HN.out, e1, e2, ← hsm, ← hG, ← hm, ← htz, Bool.true_and]
  have HB0 := Lib.hid (And.intro hk (And.intro hx1 (And.intro hx2 hx3)))
  have HM := Lib.hid hm
  have HTZ := Lib.hid htz
  have HSM := Lib.hid hsm
  have hG9 : G < 18446744073709551616 := by
    rw [hG]
    unfold getN
    split
    · have h1 := leN_lt (cutL b 252 4)
      have h2 : (cutL b 252 4).length ≤ 4 := by
        unfold cutL
        split
        · simp; omega
        · simp
      have : 256 ^ (cutL b 252 4).length ≤ 256 ^ 4 := Nat.pow_le_pow_right (by decide) h2
      omega
    · omega
  have hget1 := get_any (some ⟨b1, o1, none⟩) 256 c b w 252 4 hl (by decide)
  rw [← hG] at hget1
  generalize getE b 252 4 = X1 at hget1
  have HGET1 := Lib.hid hget1
  have hget2 := fun (w : World) (hl : Sl w 1 (.slice (some ⟨b1, o1, none⟩) 256 c) 256 (bvs b)) => get_any (some ⟨b1, o1, none⟩) 256 c b w 2 2 hl (by decide)
  have e9 : getN b 2 2 = m := hm.symm
  rw [e9] at hget2
  generalize getE b 2 2 = X2 at hget2
  have HGET2 := Lib.hid hget2
  clear hget1 hget2 e9 hG hm hk hx1 hx2 hx3 hsm htz
  have HMX := Lib.hid hmx
  clear hmx
  go_enter Tryd.func16, Tryd.ntmps16
  go_wp2_with fail
  refine HGET1.out.mono ?_
  rintro e w1 ⟨rfl, hb1⟩
  go_wp2_with fail
  refine (HGET2.out w1 (hl.below hb1)).mono ?_
  rintro e w2 ⟨rfl, hb2⟩
  have hB2 := hb1.trans (hb2.mono hb1.size)
  have hl2 := hl.below hB2
  have hf2 := hl2.front (m := 252) (by omega)
  rw [Nat.mul_one, bvs_take] at hf2
  clear hb1 hb2 HGET1 HGET2
  have hc252 : 252 ≤ c := by omega
  go_wp2_with fail
  refine (sum_any _ 252 c (b.take 252) w2 hf2).mono ?_
  rintro e w3 ⟨rfl, hb3⟩
  rw [← HSM.out]
  have hB3 := hB2.trans (hb3.mono hB2.size)
  have hl3 := hl.below hB3
  clear hB2 hl2 hf2 hb3 HSM
  obtain ⟨_, _, e0, q0⟩ := hl3.byte (k := 0) (by omega)
  cases e0
  obtain ⟨_, _, e1, q1⟩ := hl3.byte (k := 1) (by omega)
  cases e1
  obtain ⟨_, _, e2, q2⟩ := hl3.byte (k := 2) (by omega)
  cases e2
  obtain ⟨_, _, e3, q3⟩ := hl3.byte (k := 3) (by omega)
  cases e3
  have q0' : w3.cell? ⟨b1, o1, none⟩ = some (.int .u8 (k : Int)) := by rw [HB0.out.1]; exact q0
  rw [← HB0.out.2.1] at q1
  rw [← HB0.out.2.2.1] at q2
  rw [← HB0.out.2.2.2] at q3
  clear q0
  have hb1lt := lt_of_cell q0'
  by_cases hs : sm = G
  rotate_left
  · have hno : Hid (opOk b = false) := by show _ = _; rw [HOK.out, decide_eq_false hs]; rfl
    have hs1 : ((sm : Int) == (G : Int)) = false := by rw [beq_eq_false_iff_ne]; omega
    go_wp2_with fail
    obtain ⟨e1, e2, e3, e4⟩ := HH.out.no hno.out
    rw [e1, e2, e3, e4]
    try simp only [Exit.inBlock, Exit.then]
    refine bodyPost_ret (results_tmp3 rfl _ _ _) rfl ?_
    exact ⟨_, rfl, Own.nil _ _ _, hB3⟩
  subst hs
  by_cases hk0 : k = 0
  · have hno : Hid (opOk b = false) := by show _ = _; rw [HOK.out, hk0]; simp
    subst hk0
    go_wp2_with fail
    obtain ⟨e1, e2, e3, e4⟩ := HH.out.no hno.out
    rw [e1, e2, e3, e4]
    try simp only [Exit.inBlock, Exit.then]
    refine bodyPost_ret (results_tmp3 rfl _ _ _) rfl ?_
    exact ⟨_, rfl, Own.nil _ _ _, hB3⟩
  have hk1 : ((k : Int) == 0) = false := by rw [beq_eq_false_iff_ne]; omega
  by_cases hm248 : m ≤ 248
  rotate_left
  · have hno : Hid (opOk b = false) := by show _ = _; rw [HOK.out, decide_eq_false hm248]; simp
    have hmi : (248 : Int) < m := by omega
    go_wp2_with fail
    obtain ⟨e1, e2, e3, e4⟩ := HH.out.no hno.out
    rw [e1, e2, e3, e4]
    try simp only [Exit.inBlock, Exit.then]
    refine bodyPost_ret (results_tmp3 rfl _ _ _) rfl ?_
    exact ⟨_, rfl, Own.nil _ _ _, hB3⟩
  have hmi : ¬ (248 : Int) < m := by omega
  have hx3 : x3 = 0 := by have := HMX.out; omega
  have hx2 : x2 = m := by have := HMX.out; omega
  subst hx3
  subst hx2
  go_upto_region 9 with fail
  have q1' : w3.cell? ⟨b1, o1 + 1, none⟩ = some (.int .u8 (x1 : Int)) := q1
  have q2' : w3.cell? ⟨b1, o1 + 2, none⟩ = some (.int .u8 (x2 : Int)) := q2
  have q3' : w3.cell? ⟨b1, o1 + 3, none⟩ = some (.int .u8 0) := q3
  have l0 := later_cell q0'
  have l1 := later_cell q1'
  have l2 := later_cell q2'
  have l3 := later_cell q3'
  clear q1 q2 q3 q1' q2' q3'
  have hc4 : 4 ≤ c := by omega
  have harr : ∀ x : Later Rb w3.drew, (Instr.arrayAt 47 (.slice (some ⟨b1, o1, none⟩) 4 c)).run Tryd.prog x.w = .ok (.pointer (some ⟨b1, o1, none⟩)) x.w := fun x => run_arrayAt _ 47 5 4 _ 4 c Tryd.underlying47 (Nat.le_refl _)
  refine wp_region_idx Rb Rb_refl Rb_trans [(0,0),(0,1),(0,2),(0,3),(0,4),(0,5),(0,6),(0,7),(0,8),(1,9),(0,10),(0,11)] (by kernel_rfl) (by kernel_rfl) (by kernel_rfl) ?_
  simp only [pickO, List.getD_cons_succ, List.getD_cons_zero]
  refine wpCan_seg 9 (by kernel_rfl) ?_
  simp only [List.take_succ_cons, List.take_zero, List.drop_succ_cons, List.drop_zero, List.map_cons, List.map_nil]
  iterate 9 (go_big_quiet_step (fail))
  refine wpQuiet_nil ?_
  clear l0 l1 l2 l3 harr
  refine wpCan_list (k := 0) (fun KK hK => ?_) (fun _ => Rb_refl _)
  go_wp2_with fail
  refine (front_any k x2 hk9 hm9 w3.drew).mono ?_
  rintro e w4 ⟨rfl, hb4⟩
  have hB4 := (hB3.drew).trans (hb4.mono hB3.size)
  go_wp2_with fail
  refine hK _ _ (fun _ => hb4) ?_
  clear hK KK
  have hmod : (x2 : Int) % 256 = x2 := by omega
  have hdiv : (x2 : Int) / 256 = 0 := by omega
  rw [hmod, hdiv]
  clear hmod hdiv hb4
  by_cases hx1 : x1 = 0
  rotate_left
  · have hno : Hid (opOk b = false) := by show _ = _; rw [HOK.out, decide_eq_false hx1]; simp
    have heq : ∀ x : Later Rb w4, (Op.equalIn 10000 47 (.agg #[.int .u8 (k : Int), .int .u8 (x1 : Int), .int .u8 (x2 : Int), .int .u8 0]) (.agg #[.int .u8 (k : Int), .int .u8 0, .int .u8 (x2 : Int), .int .u8 0])).run Tryd.prog x.w = .ok false x.w := by
      intro x
      rw [eqA4]
      have hx1i : ((x1 : Int) == 0) = false := by rw [beq_eq_false_iff_ne]; omega
      simp [hx1i]
    refine wpCan_seg 2 (by kernel_rfl) ?_
    simp only [List.take_succ_cons, List.take_zero, List.drop_succ_cons, List.drop_zero, List.map_cons, List.map_nil]
    iterate 2 (go_big_quiet_step (fail))
    refine wpQuiet_nil ?_
    unfold wpCan
    clear heq
    go_wp2_with fail
    obtain ⟨e1, e2, e3, e4⟩ := HH.out.no hno.out
    rw [e1, e2, e3, e4]
    try simp only [Exit.inBlock, Exit.then]
    refine bodyPost_ret (results_tmp3 rfl _ _ _) rfl ?_
    exact ⟨_, rfl, Own.nil _ _ _, hB4⟩
  subst hx1
  have heq : ∀ x : Later Rb w4, (Op.equalIn 10000 47 (.agg #[.int .u8 (k : Int), .int .u8 0, .int .u8 (x2 : Int), .int .u8 0]) (.agg #[.int .u8 (k : Int), .int .u8 0, .int .u8 (x2 : Int), .int .u8 0])).run Tryd.prog x.w = .ok true x.w := by
    intro x
    rw [eqA4]
    simp
  refine wpCan_seg 2 (by kernel_rfl) ?_
  simp only [List.take_succ_cons, List.take_zero, List.drop_succ_cons, List.drop_zero, List.map_cons, List.map_nil]
  iterate 2 (go_big_quiet_step (fail))
  refine wpQuiet_nil ?_
  unfold wpCan
  clear heq
  have hl4 := hl.below hB4
  have hm4 : 4 + x2 ≤ 252 := by omega
  go_upto_region 12 with fail
  go_wp2_with (refine wpL_cutW etB rfl (.tmp 51) _ _ none rfl (4 + x2) 252 c rfl (bounds_open _ c x2 hm4 hc252) hm4 (by decide) (by omega) (Nat.le_refl _) ?_; intro av hav0; have hav := hav0 w4 _ hl4; rw [← List.drop_take, bvs_take, bvs_drop] at hav; clear hav0)
  refine (trim_any av _ _ _ w4 hav).mono ?_
  rintro e w5 ⟨a5, c5, rfl, rfl⟩
  rw [← HTZ.out]
  clear hav
  by_cases htz : tz = 0
  rotate_left
  · have hno : Hid (opOk b = false) := by show _ = _; rw [HOK.out, decide_eq_false htz]; simp
    have htzi : (0 : Int) < tz := by omega
    go_wp2_with fail
    obtain ⟨e1, e2, e3, e4⟩ := HH.out.no hno.out
    rw [e1, e2, e3, e4]
    try simp only [Exit.inBlock, Exit.then]
    refine bodyPost_ret (results_tmp3 rfl _ _ _) rfl ?_
    exact ⟨_, rfl, Own.nil _ _ _, hB4⟩
  subst htz
  have hyes : Hid (opOk b = true) := by show _ = _; rw [HOK.out, decide_eq_true hm248, decide_eq_false hk0]; simp
  have hci : cutIs b 4 (x2 : Int) = true := by
    simp only [cutIs, HN.out, Bool.and_eq_true, decide_eq_true_eq]
    omega
  have hcl : cutL b 4 (x2 : Int) = opB b := by
    rw [cutL, if_pos hci, opB, ← HM.out]
    rfl
  have hbl : (opB b).length = x2 := by rw [opB, List.length_take, List.length_drop, HN.out, ← HM.out]; omega
  have hcut := cut_any (some ⟨b1, o1, none⟩) 256 c b w4 4 (x2 : Int) hl4 (by decide)
  rw [hci, hcl, hbl] at hcut
  have HCUT := Lib.hid hcut
  have HBL := Lib.hid hbl
  clear hcut hci hcl hbl hl4
  go_wp2_with fail
  refine HCUT.out.mono ?_
  rintro e w6 ⟨v6, rfl, ho6, hb6⟩
  obtain ⟨a6, c6, rfl⟩ := ho6.form
  have hB6 := hB4.trans (hb6.mono hB4.size)
  obtain ⟨_, _, e0, q6⟩ := (hl.below hB6).byte (k := 0) (by omega)
  cases e0
  have q6' : w6.cell? ⟨b1, o1, none⟩ = some (.int .u8 (k : Int)) := by rw [HB0.out.1]; exact q6
  clear q6 hb6
  go_wp2_with fail
  obtain ⟨e1, e2, e3, e4⟩ := HH.out.yes hyes.out
  rw [e1, e2, e3, e4, ← HB0.out.1, HBL.out]
  try simp only [Exit.inBlock, Exit.then]
  refine bodyPost_ret (results_tmp3 rfl _ _ _) rfl ?_
  exact ⟨_, rfl, ho6.mono hB4.size, hB6⟩
end Go.Proofs.YtobagfndagjajaaDoor
