/-
  Law 03's Vast, alike and works, and its steps. Conditions: the slices read.
-/
import Derived.Test.YtcocodpeigbdaaaDskJ
import Derived.Test.YtcocodpeigbdaaaDskK
import Derived.Test.YtcocodpeigbdaaaDskL
import Derived.Test.YtcocodpeigbdaaaGen
namespace Go.Proofs.Ytcocodpeigbdaaa
open Go.RowKit
set_option linter.unusedVariables false
set_option linter.unusedSimpArgs false

theorem wf_i64 {z : Int} (h : (Lit.int .i64 z).wf = true) : -9223372036854775808 ≤ z ∧ z ≤ 9223372036854775807 := by
  have e9 : IntKind.i64.min = -9223372036854775808 := by decide
  simp [Lit.wf, e9] at h
  omega
abbrev Stp := Int × Int × List UInt8 × List Int
def VStep : World → List Value → Stp → Prop := VRec4 1 1 1 1 (VInt .i64) (VInt .i64) (VSl VByte 1) (VSl (VInt .i64) 1)
theorem opensStep : Opens Try.prog 42 4 VStep := opens_rec4 Try.underlying42 (by kernel_rfl) rfl rfl rfl rfl rfl rfl rfl rfl (opens_int Try.underlying3 (by kernel_rfl)) (opens_int Try.underlying3 (by kernel_rfl)) (opens_sl (opens_byte Try.underlying5 (by kernel_rfl)) (by decide) Try.underlying22 (by kernel_rfl)) (opens_sl (opens_int Try.underlying3 (by kernel_rfl)) (by decide) Try.underlying30 (by kernel_rfl))
theorem stabStep : Stab VStep := stab_rec4 (stab_int _) (stab_int _) (stab_sl stab_byte) (stab_sl (stab_int _))
structure StpIs (w : World) (K s : Int) (aB : Option Addr) (nB cB : Nat) (l : List UInt8) (aK : Option Addr) (nK cK : Nat) (keep : List Int) : Prop where
  sb : Sl w 1 (.slice aB nB cB) nB (bvs l)
  sk : Sl w 1 (.slice aK nK cK) nK (ints keep)
  hi : s ≤ 9223372036854775807
theorem stp_rec {w : World} {cs : List Value} {K s : Int} {l : List UInt8} {keep : List Int} (h : VStep w cs (K, s, l, keep)) : ∃ aB cB aK cK, cs = [.int .i64 K, .int .i64 s, .slice aB l.length cB, .slice aK keep.length cK] ∧ StpIs w K s aB l.length cB l aK keep.length cK keep := by
  obtain ⟨c0, c1, c2, c3, rfl, h0, h1, h2, h3, ⟨rfl, v0⟩, ⟨rfl, v1⟩, ⟨x, rfl, v2⟩, ⟨y, rfl, v3⟩⟩ := h
  obtain ⟨aB, cB, rfl, _, _⟩ := v2.form
  obtain ⟨aK, cK, rfl, _, _⟩ := v3.form
  exact ⟨aB, cB, aK, cK, rfl, v2.bytes, v3.ints, (wf_i64 v1).2⟩
theorem stp_at {w : World} {a : Option Addr} {m c : Nat} {L : List Stp} (h : SlOf VStep 4 w (.slice a m c) L) (i : Nat) (hi : i < m) :
    ∃ b off aB nB cB l aK nK cK keep K s, a = some ⟨b, off, none⟩ ∧ L[i]? = some (K, s, l, keep) ∧ nB = l.length ∧ nK = keep.length ∧ StpIs w K s aB nB cB l aK nK cK keep ∧
      w.cell? ⟨b, off + i * 4, none⟩ = some (.int .i64 K) ∧ w.cell? ⟨b, off + i * 4 + 1, none⟩ = some (.int .i64 s) ∧ w.cell? ⟨b, off + i * 4 + 2, none⟩ = some (.slice aB nB cB) ∧ w.cell? ⟨b, off + i * 4 + 3, none⟩ = some (.slice aK nK cK) := by
  have hm := h.len.1
  have hi2 : i < L.length := by omega
  obtain ⟨b, off, cs, ha, hcl, hV, hc⟩ := h.at i hi2
  have hr : ∃ K s l keep, L[i] = (K, s, l, keep) := ⟨_, _, _, _, rfl⟩
  obtain ⟨K, s, l, keep, hq⟩ := hr
  rw [hq] at hV
  obtain ⟨aB, cB, aK, cK, rfl, hs⟩ := stp_rec hV
  exact ⟨b, off, aB, _, cB, l, aK, _, cK, keep, K, s, ha, by rw [List.getElem?_eq_getElem hi2, hq], rfl, rfl, hs, by simpa using hc 0 (by decide), by simpa using hc 1 (by decide), by simpa using hc 2 (by decide), by simpa using hc 3 (by decide)⟩
def FewS (L : List Stp) : Prop := L.length ≤ 120 ∧ ∀ (i : Nat) (K s : Int) (l : List UInt8) (keep : List Int), L[i]? = some (K, s, l, keep) → l.length ≤ 1024 ∧ keep.length ≤ 256
def VastPost (L : List Stp) (w : World) (e : Ending) (w' : World) : Prop := ∃ B, e = .returned (.bool B) ∧ Hid (B = false → FewS L) ∧ Below w.heap.size w w'
set_option maxHeartbeats 400000 in
theorem vast_any (a : Option Addr) (n c : Nat) (L : List Stp) (w : World) (hl : SlOf VStep 4 w (.slice a n c) L) :
    Calls Try.prog 20 #[.slice a n c] w (VastPost L w) := by
  have hn := hl.len
  have HN := Lib.hid hn.1
  have hn2 := hn.2
  clear hn
  by_cases h1 : 120 < n
  · have h1' : (120 : Int) < n := by omega
    go_enter Try.func20, Try.ntmps20
    go_wp2_with fail
    go_ret
    exact ⟨true, rfl, Lib.hid (fun h => by cases h), Below.refl _ _⟩
  have h1' : ¬ (120 : Int) < n := by omega
  go_enter Try.func20, Try.ntmps20
  go_wp2_with fail
  go_loopw [3] (fun v3 wr => ∃ k : Nat, k ≤ n ∧ v3 = .int .i64 k ∧ (∀ (i : Nat) (K s : Int) (l : List UInt8) (keep : List Int), i < k → L[i]? = some (K, s, l, keep) → l.length ≤ 1024 ∧ keep.length ≤ 256) ∧ Below w.heap.size w wr) (fun v3 _ => n - (intOf v3).toNat)
  case atStart => exact ⟨0, Nat.zero_le _, rfl, (fun i K s l keep h => by omega), Below.refl _ _⟩
  case round =>
    obtain ⟨k, hk, rfl, ha, hb⟩ := hrel
    have HA := Lib.hid ha
    clear ha
    by_cases hkn : k = n
    · subst hkn
      go_wp2_with fail
      go_ret
      refine ⟨false, rfl, Lib.hid fun _ => ⟨by rw [← HN.out]; omega, fun i K s l keep h => HA.out i K s l keep ?_ h⟩, hb⟩
      have h8 := (List.getElem?_eq_some_iff.1 h).1
      have h9 := HN.out
      omega
    · have hlt : k < n := by omega
      have hlt' : (k : Int) < n := by omega
      obtain ⟨b, off, aB, nB, cB, l, aK, nK, cK, keep, K, s, rfl, hri, hrm, hrk, hop, hc0, hc1, hc2, hc3⟩ := stp_at (hl.below stabStep hb) k hlt
      have HRI := Lib.hid hri
      have HRM := Lib.hid hrm
      have HRK := Lib.hid hrk
      clear hri hrm hrk hop hc0 hc1
      by_cases h5 : 1024 < nB
      · have h5' : (1024 : Int) < nB := by omega
        go_wp2_with fail
        go_ret
        exact ⟨true, rfl, Lib.hid (fun h => by cases h), hb⟩
      · have h5' : ¬ (1024 : Int) < nB := by omega
        by_cases h6 : 256 < nK
        · have h6' : (256 : Int) < nK := by omega
          go_wp2_with fail
          go_ret
          exact ⟨true, rfl, Lib.hid (fun h => by cases h), hb⟩
        · have h6' : ¬ (256 : Int) < nK := by omega
          go_wp2_with fail
          refine ⟨⟨k + 1, by omega, by go_num, fun i K' s' l' keep' hi h => ?_, hb⟩, by simp [intOf]; omega⟩
          by_cases hik : i < k
          · exact HA.out i K' s' l' keep' hik h
          · obtain rfl : i = k := by omega
            rw [HRI.out] at h
            cases h
            have := HRM.out
            have := HRK.out
            omega
set_option maxHeartbeats 1000000 in
theorem alike_any (c c2 : Nat) (col : Nat → Nat) (b r : Nat) (D : Dk) (w : World) (h : DkAt 74 c col w b D) (h2 : DkAt 59 c2 col w r D) :
    Calls Try.prog 30 #[.pointer (some ⟨b, 0, none⟩), .pointer (some ⟨r, 0, none⟩)] w fun e w' => e = .returned (.bool true) ∧ Below w.heap.size w w' := by
  obtain ⟨aS, cS, aP, cP, sv, pv, h⟩ := h
  obtain ⟨aS2, cS2, aP2, cP2, sv2, pv2, h2⟩ := h2
  obtain ⟨S, P, dead, armed, steps⟩ := D
  have hr := h.row
  have hr2 := h2.row
  simp only at hr hr2
  have c0 : w.cell? ⟨b, 0, none⟩ = some (.slice aS S.length cS) := hr.cell 0
  have c1 : w.cell? ⟨b, 1, none⟩ = some (.slice aP P.length cP) := hr.cell 1
  have c3 : w.cell? ⟨b, 2, none⟩ = some (.bool dead) := hr.cell 2
  have c4 : w.cell? ⟨b, 4, none⟩ = some (.int .i64 steps) := hr.cell 4
  have q0 := later_cell (hr2.cell 0 : w.cell? ⟨r, 0, none⟩ = some (.slice aS2 S.length cS2))
  have q1 := later_cell (hr2.cell 1 : w.cell? ⟨r, 1, none⟩ = some (.slice aP2 P.length cP2))
  have q2 := later_cell (hr2.cell 2 : w.cell? ⟨r, 2, none⟩ = some (.bool dead))
  have q4 := later_cell (hr2.cell 4 : w.cell? ⟨r, 4, none⟩ = some (.int .i64 steps))
  have C := Lib.hid (And.intro c0 (And.intro c1 (And.intro c3 c4)))
  have hdd : (dead == dead) = true := by simp
  clear c0 c1 c3 c4 hr hr2 h h2
  generalize S.length = nS at C q0
  generalize P.length = nP at C q1
  go_enter Try.func30, Try.ntmps30
  go_wp2_with fail
  refine wp_region_idx Rb Rb_refl Rb_trans [(0,0),(0,2),(0,3),(0,4),(0,5),(1,1),(0,6),(0,7),(0,8),(0,10),(0,11),(0,12),(0,13),(0,14),(1,9),(0,15),(0,16),(0,17),(0,18),(0,20),(0,21),(0,22),(0,23),(1,19),(0,24),(0,25),(0,26),(0,27),(0,29),(0,30),(0,31),(0,32),(0,33),(1,28),(0,34),(0,35),(0,36)] (by kernel_rfl) (by kernel_rfl) (by kernel_rfl) ?_
  simp only [pickO, List.getD_cons_succ, List.getD_cons_zero]
  refine wpCan_seg 5 (by kernel_rfl) ?_
  simp only [List.take_succ_cons, List.take_zero, List.drop_succ_cons, List.drop_zero, List.map_cons, List.map_nil]
  iterate 5 (go_big_quiet_step (fail))
  refine wpQuiet_nil ?_
  refine wpCan_list (k := 0) (fun KK hK => ?_) (fun _ => Rb_refl _)
  go_wp2_with fail
  refine (dead_any b dead w.drew C.out.2.2.1).mono ?_
  rintro e w1 ⟨rfl, rfl⟩
  go_wp2_with fail
  refine hK _ _ (fun _ => Rb_refl _) ?_
  clear hK KK
  refine wpCan_seg 8 (by kernel_rfl) ?_
  simp only [List.take_succ_cons, List.take_zero, List.drop_succ_cons, List.drop_zero, List.map_cons, List.map_nil]
  iterate 8 (go_big_quiet_step (fail))
  refine wpQuiet_nil ?_
  refine wpCan_list (k := 0) (fun KK hK => ?_) (fun _ => Rb_refl _)
  go_wp2_with fail
  refine (pending_any b aP nP cP w.drew C.out.2.1).mono ?_
  rintro e w1 ⟨rfl, rfl⟩
  go_wp2_with fail
  refine hK _ _ (fun _ => Rb_refl _) ?_
  clear hK KK
  refine wpCan_seg 8 (by kernel_rfl) ?_
  simp only [List.take_succ_cons, List.take_zero, List.drop_succ_cons, List.drop_zero, List.map_cons, List.map_nil]
  iterate 8 (go_big_quiet_step (fail))
  refine wpQuiet_nil ?_
  refine wpCan_list (k := 0) (fun KK hK => ?_) (fun _ => Rb_refl _)
  go_wp2_with fail
  refine (steps_any b steps w.drew C.out.2.2.2).mono ?_
  rintro e w1 ⟨rfl, rfl⟩
  go_wp2_with fail
  refine hK _ _ (fun _ => Rb_refl _) ?_
  clear hK KK
  refine wpCan_seg 9 (by kernel_rfl) ?_
  simp only [List.take_succ_cons, List.take_zero, List.drop_succ_cons, List.drop_zero, List.map_cons, List.map_nil]
  iterate 9 (go_big_quiet_step (fail))
  refine wpQuiet_nil ?_
  refine wpCan_list (k := 0) (fun KK hK => ?_) (fun _ => Rb_refl _)
  go_wp2_with fail
  refine (sectors_any b aS nS cS w.drew C.out.1).mono ?_
  rintro e w1 ⟨rfl, rfl⟩
  go_wp2_with fail
  refine hK _ _ (fun _ => Rb_refl _) ?_
  clear hK KK
  refine wpCan_seg 3 (by kernel_rfl) ?_
  simp only [List.take_succ_cons, List.take_zero, List.drop_succ_cons, List.drop_zero, List.map_cons, List.map_nil]
  iterate 3 (go_big_quiet_step (fail))
  refine wpQuiet_nil ?_
  unfold wpCan
  go_wp2_with fail
  go_ret
  exact ⟨rfl, (Below.refl _ _).drew⟩
end Go.Proofs.Ytcocodpeigbdaaa
