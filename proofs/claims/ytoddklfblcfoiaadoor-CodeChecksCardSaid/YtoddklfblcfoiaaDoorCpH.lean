/-
  Whether a code is larger than a statement goes through, walked. Condition: within a machine's reach.
-/
import Derived.Test.YtoddklfblcfoiaaDoorCpF
namespace Go.Proofs.YtoddklfblcfoiaaDoor
open Go Go.RowKit
set_option linter.unusedVariables false
set_option linter.unusedSimpArgs false
set_option maxRecDepth 100000

def sumN {α : Type} (f : α → Nat) : List α → Nat
  | [] => 0
  | x :: r => f x + sumN f r
theorem sumN_take {α : Type} (f : α → Nat) : ∀ {l : List α} {i : Nat} {x : α}, l[i]? = some x → sumN f (l.take (i + 1)) = sumN f (l.take i) + f x
  | [], i, x, h => by simp at h
  | y :: r, 0, x, h => by
    have : y = x := by simpa using h
    subst this
    simp [sumN]
  | y :: r, i + 1, x, h => by
    have h1 : r[i]? = some x := by simpa using h
    have := sumN_take f h1
    simp only [List.take_succ_cons, sumN]
    omega
theorem sumN_le {α : Type} (f : α → Nat) : ∀ (l : List α) (i : Nat), sumN f (l.take i) ≤ sumN f l
  | [], i => by simp [sumN]
  | y :: r, 0 => by simp [sumN]
  | y :: r, i + 1 => by
    have := sumN_le f r i
    simp only [List.take_succ_cons, sumN]
    omega
theorem sumN_mem {α : Type} (f : α → Nat) : ∀ {l : List α} {x : α}, x ∈ l → f x ≤ sumN f l
  | y :: r, x, h => by
    rcases List.mem_cons.1 h with rfl | h
    · simp only [sumN]; omega
    · have := sumN_mem f h
      simp only [sumN]; omega
def t16 (x : Ins) : Nat := x.t.length / 16
def fun16 (l : List Ins) : Nat := l.length + sumN t16 l
def sta16 (x : Sta) : Nat := (x.n.length + x.s.length) / 16
/-- how much there is to go through -/
def sizeV (c : Cod) : Nat := c.f.length + c.r.length + sumN fun16 c.f + sumN sta16 c.r
/-- within a machine's reach -/
def CodZ (c : Cod) : Prop := c.f.length ≤ 140737488351232 ∧ c.r.length ≤ 140737488351232 ∧ (∀ l ∈ c.f, l.length ≤ 140737488351232 ∧ ∀ x ∈ l, x.t.length ≤ 140737488351232) ∧ ∀ x ∈ c.r, x.n.length ≤ 140737488351232 ∧ x.s.length ≤ 140737488351232
def LgF (c : Cod) (i m : Nat) : Prop := m ≤ sizeV c ∧ (3000 < m ∨ m = c.f.length + c.r.length + sumN fun16 (c.f.take i))
def LgI (c : Cod) (i : Nat) (l : List Ins) (j m : Nat) : Prop := m ≤ sizeV c ∧ (3000 < m ∨ m = c.f.length + c.r.length + sumN fun16 (c.f.take i) + l.length + sumN t16 (l.take j))
def LgR (c : Cod) (k m : Nat) : Prop := m ≤ sizeV c ∧ (3000 < m ∨ m = c.f.length + c.r.length + sumN fun16 c.f + sumN sta16 (c.r.take k))
theorem LgI.start {c : Cod} {i m : Nat} {l : List Ins} (h : LgF c i m) (hl : c.f[i]? = some l) (hm : m ≤ 3000) : LgI c i l 0 (m + l.length) := by
  have h1 := sumN_take fun16 hl
  have h2 := sumN_le fun16 c.f (i + 1)
  have h3 : fun16 l = l.length + sumN t16 l := rfl
  have h4 : sumN t16 (l.take 0) = 0 := rfl
  obtain ⟨h5, h6⟩ := h
  unfold LgI sizeV at *
  omega
theorem LgI.more {c : Cod} {i j m : Nat} {l : List Ins} {x : Ins} (h : LgI c i l j m) (hl : c.f[i]? = some l) (hx : l[j]? = some x) (hm : m ≤ 3000) : LgI c i l (j + 1) (m + x.t.length / 16) := by
  have h1 := sumN_take fun16 hl
  have h2 := sumN_le fun16 c.f (i + 1)
  have h3 : fun16 l = l.length + sumN t16 l := rfl
  have h4 := sumN_take t16 hx
  have h5 := sumN_le t16 l (j + 1)
  have h6 : t16 x = x.t.length / 16 := rfl
  obtain ⟨h7, h8⟩ := h
  unfold LgI sizeV at *
  omega
theorem LgI.ends {c : Cod} {i m j : Nat} {l : List Ins} (h : LgI c i l j m) (hl : c.f[i]? = some l) (hj : j = l.length ∨ 3000 < m) : LgF c (i + 1) m := by
  have h1 := sumN_take fun16 hl
  have h3 : fun16 l = l.length + sumN t16 l := rfl
  obtain ⟨h7, h8⟩ := h
  refine ⟨h7, ?_⟩
  rcases hj with rfl | hj
  · rw [List.take_length] at h8
    omega
  · exact .inl hj
theorem LgF.start' {c : Cod} {i m : Nat} (h : LgF c i m) (hi : i = c.f.length ∨ 3000 < m) : LgR c 0 m := by
  obtain ⟨h7, h8⟩ := h
  refine ⟨h7, ?_⟩
  rcases hi with rfl | hi
  · rw [List.take_length] at h8
    have h4 : sumN sta16 (c.r.take 0) = 0 := rfl
    omega
  · exact .inl hi
theorem LgR.more {c : Cod} {k m : Nat} {x : Sta} (h : LgR c k m) (hx : c.r[k]? = some x) (hm : m ≤ 3000) : LgR c (k + 1) (m + (x.n.length + x.s.length) / 16) := by
  have h4 := sumN_take sta16 hx
  have h5 := sumN_le sta16 c.r (k + 1)
  have h6 : sta16 x = (x.n.length + x.s.length) / 16 := rfl
  obtain ⟨h7, h8⟩ := h
  unfold LgR sizeV at *
  omega
theorem LgR.ends {c : Cod} {k m : Nat} (h : LgR c k m) (hk : k = c.r.length ∨ 3000 < m) : decide (3000 < (m : Int)) = decide (3000 < sizeV c) := by
  obtain ⟨h7, h8⟩ := h
  have : (3000 < (m : Int)) ↔ 3000 < sizeV c := by
    rcases hk with rfl | hk
    · rw [List.take_length] at h8
      unfold sizeV at *
      omega
    · omega
  exact decide_eq_decide.2 this
set_option maxHeartbeats 4000000 in
theorem large_p (aF : Option Addr) (nF kF : Nat) (aR : Option Addr) (nR kR : Nat) (c : Cod) (w : World) (hc : CodM w (.slice aF nF kF) (.slice aR nR kR) c) (HZ : Hid (CodZ c)) (B : Bool) (HB : Hid (B = decide (3000 < sizeV c))) :
    Calls Tryd.prog 10 #[.agg #[.slice aF nF kF, .slice aR nR kR]] w fun e w' => e = .returned (.bool B) ∧ Below w.heap.size w w' := by
  have HNF : Hid (c.f.length = nF) := Lib.hid (by obtain ⟨⟨vs, h1, h2⟩, h3⟩ := hc; have := h1.cap; omega)
  have HNR : Hid (c.r.length = nR) := Lib.hid (by obtain ⟨_, h3⟩ := hc; have h4 := h3.cap.2.2.2; rw [flat_len staC 2 (fun _ => rfl)] at h4; omega)
  have hzF : nF ≤ 140737488351232 := by rw [← HNF.out]; exact HZ.out.1
  have hzR : nR ≤ 140737488351232 := by rw [← HNR.out]; exact HZ.out.2.1
  obtain ⟨w1, hw1⟩ : ∃ y, y = w.alloc (.cells #[.slice aF nF kF, .slice aR nR kR] 25) := ⟨_, rfl⟩
  have r1 : Row w1 w.heap.size 25 [.slice aF nF kF, .slice aR nR kR] := by rw [hw1]; exact Row.new w _ _
  have hb1 : Below w.heap.size w w1 := by rw [hw1]; exact (Below.refl _ _).alloc (Nat.le_refl _) _
  have q0 : w1.cell? ⟨w.heap.size, 0, none⟩ = some (.slice aF nF kF) := r1.cell 0
  have q1 : w1.cell? ⟨w.heap.size, 1, none⟩ = some (.slice aR nR kR) := r1.cell 1
  have HC := Lib.hid (hc.below hb1)
  have HB1 := Lib.hid hb1
  have HR1 := Lib.hid r1
  clear hc hb1 r1
  go_enter Tryd.func10, Tryd.ntmps10
  go_upto_region 1 with fail
  rw [← hw1]
  clear hw1
  go_wp2_with fail
  obtain ⟨m0, hm0⟩ : ∃ y : Nat, y = nF + nR := ⟨_, rfl⟩
  go_loopw [3, 4] (fun v3 v4 wr => ∃ i m : Nat, i ≤ nF ∧ m ≤ 1000000000000000 ∧ v3 = .int .i64 (m : Nat) ∧ v4 = .int .i64 (i : Nat) ∧ Hid (LgF c i m) ∧ Hid (Below w1.heap.size w1 wr)) (fun _ v4 _ => nF - (RowKit.intOf v4).toNat)
  case atStart => exact ⟨0, m0, Nat.zero_le _, by omega, by go_num, rfl, Lib.hid ⟨by rw [hm0]; unfold sizeV; rw [HNF.out, HNR.out]; omega, .inr (by rw [hm0, HNF.out, HNR.out]; rfl)⟩, Lib.hid (Below.refl _ _)⟩
  case round =>
    clear hm0 q0 q1
    obtain ⟨i, m, hi, hm, rfl, rfl, HL, HW⟩ := hrel
    have hr := HR1.out.after HW.out
    have q0 : wr.cell? ⟨w.heap.size, 0, none⟩ = some (.slice aF nF kF) := hr.cell 0
    have q1 : wr.cell? ⟨w.heap.size, 1, none⟩ = some (.slice aR nR kR) := hr.cell 1
    clear hr
    by_cases hin : i = nF
    · have hin' : nF = i := hin.symm
      subst hin'
      have HR : Hid (LgR c 0 m) := Lib.hid (HL.out.start' (.inl HNF.out.symm))
      go_wp2_with fail
      clear q0 q1
      go_loopw [3, 6] (fun v3 v6 wr2 => ∃ k m2 : Nat, k ≤ nR ∧ m2 ≤ 1000000000000000 ∧ v3 = .int .i64 (m2 : Nat) ∧ v6 = .int .i64 (k : Nat) ∧ Hid (LgR c k m2) ∧ Hid (Below w1.heap.size w1 wr2)) (fun _ v6 _ => nR - (RowKit.intOf v6).toNat)
      case atStart => exact ⟨0, m, Nat.zero_le _, hm, rfl, rfl, HR, HW⟩
      case round =>
        clear HR HL HW
        obtain ⟨k, m2, hk, hm2, rfl, rfl, HL, HW⟩ := hrel
        have hr := HR1.out.after HW.out
        have q1 : wr.cell? ⟨w.heap.size, 1, none⟩ = some (.slice aR nR kR) := hr.cell 1
        clear hr
        have HE : Hid (Below w.heap.size w wr) := Lib.hid (HB1.out.trans (HW.out.mono HB1.out.size))
        by_cases hkn : k = nR
        · have hkn' : nR = k := hkn.symm
          subst hkn'
          have hB := (HL.out.ends (.inl HNR.out.symm)).trans HB.out.symm
          by_cases hm3 : m2 ≤ 3000
          · rw [decide_eq_false (by omega)] at hB
            subst hB
            have hm3' : ¬ (3000 : Int) < m2 := by omega
            go_wp2_with fail
            go_ret
            exact ⟨rfl, HE.out⟩
          · rw [decide_eq_true (by omega)] at hB
            subst hB
            have hm3' : (3000 : Int) < m2 := by omega
            go_wp2_with fail
            go_ret
            exact ⟨rfl, HE.out⟩
        · have hklt : k < nR := by omega
          have hklt' : (k : Int) < nR := by omega
          by_cases hm3 : m2 ≤ 3000
          · have hm3' : (m2 : Int) ≤ 3000 := by omega
            have hs2 : Sl wr 2 (.slice aR nR kR) nR (stCells c.r) := by have := (HC.out.below HW.out).2; rw [HNR.out] at this; exact this
            obtain ⟨b5, o5, x, rfl, hx, hc5⟩ := hs2.elem staC staC_len (by decide) k hklt
            have d0 := hc5 0 _ rfl
            have d1 := hc5 1 _ rfl
            simp only [Nat.add_zero] at d0
            have hz := HZ.out.2.2.2 x (List.mem_of_getElem? hx)
            have hs0 : (str x.n).size = x.n.length := str_size _
            have hs1 : (str x.s).size = x.s.length := str_size _
            have HN := Lib.hid (HL.out.more hx hm3)
            obtain ⟨nn, hnn⟩ : ∃ y, y = x.n.length := ⟨_, rfl⟩
            obtain ⟨ns, hns⟩ : ∃ y, y = x.s.length := ⟨_, rfl⟩
            rw [← hnn] at hs0 HN hz
            rw [← hns] at hs1 HN hz
            have hz1 := hz.1
            have hz2 := hz.2
            generalize str x.n = sn at d0 hs0
            generalize str x.s = ss at d1 hs1
            clear hs2 hx hc5 hz hnn hns
            go_wp2_with fail
            go_quiet (fail)
            rename_i nq
            go_wp2_with fail
            exact ⟨⟨k + 1, m2 + (nn + ns) / 16, by omega, by omega, by go_num, by go_num, HN, Lib.hid (below_drewN HW.out nq)⟩, by simp [RowKit.intOf]; omega⟩
          · have hm3' : ¬ (m2 : Int) ≤ 3000 := by omega
            have hB := (HL.out.ends (.inr (by omega))).trans HB.out.symm
            rw [decide_eq_true (by omega)] at hB
            subst hB
            have hm3'' : (3000 : Int) < m2 := by omega
            go_wp2_with fail
            go_ret
            exact ⟨rfl, HE.out⟩
    · have hilt : i < nF := by omega
      have hilt' : (i : Int) < nF := by omega
      by_cases hm3 : m ≤ 3000
      · have hm3' : (m : Int) ≤ 3000 := by omega
        obtain ⟨l, hl⟩ : ∃ l, c.f[i]? = some l := ⟨_, List.getElem?_eq_getElem (by rw [HNF.out]; exact hilt)⟩
        have HLI := Lib.hid hl
        obtain ⟨gF, oF, aL, cL, rfl, hcell, hsl⟩ := (HC.out.below HW.out).fun_at i l hl
        have HSL : Hid (∀ wx, Below w1.heap.size w1 wx → Sl wx 5 (.slice aL l.length cL) l.length (inCells l) ∧ wx.cell? ⟨gF, oF + i, none⟩ = some (.slice aL l.length cL)) := Lib.hid (fun wx hx => by
          obtain ⟨g', o', a', c', e1, h1, h2⟩ := HC.out.fun_at i l HLI.out
          cases e1
          have h3 := (HW.out.cell (lt_of_cell h1)).trans h1
          rw [hcell] at h3
          cases h3
          exact ⟨h2.below hx, (hx.cell (lt_of_cell h1)).trans h1⟩)
        obtain ⟨nL, hnL⟩ : ∃ y, y = l.length := ⟨_, rfl⟩
        have HNL := Lib.hid hnL
        have hz := (HZ.out.2.2.1 l (List.mem_of_getElem? hl)).1
        rw [← hnL] at hcell hz
        have HI : Hid (LgI c i l 0 (m + nL)) := Lib.hid (by rw [hnL]; exact LgI.start HL.out hl hm3)
        clear hl hsl hnL q1
        go_wp2_with fail
        clear q0 hcell
        go_loopw [3, 5] (fun v3 v5 wr2 => ∃ j m2 : Nat, j ≤ nL ∧ m2 ≤ 1000000000000000 ∧ v3 = .int .i64 (m2 : Nat) ∧ v5 = .int .i64 (j : Nat) ∧ Hid (LgI c i l j m2) ∧ Hid (Below w1.heap.size w1 wr2)) (fun _ v5 _ => nL - (RowKit.intOf v5).toNat)
        case atStart => exact ⟨0, m + nL, Nat.zero_le _, by omega, by go_num, rfl, HI, HW⟩
        case round =>
          clear HI HL HW
          obtain ⟨j, m2, hj, hm2, rfl, rfl, HL, HW⟩ := hrel
          have hr := HR1.out.after HW.out
          have q0 : wr.cell? ⟨w.heap.size, 0, none⟩ = some (.slice (some ⟨gF, oF, none⟩) nF kF) := hr.cell 0
          have hcell := (HSL.out _ HW.out).2
          rw [← HNL.out] at hcell
          clear hr
          by_cases hjn : j = nL
          · have hjn' : nL = j := hjn.symm
            subst hjn'
            go_wp2_with fail
            exact ⟨⟨i + 1, m2, by omega, hm2, rfl, by go_num, Lib.hid (HL.out.ends HLI.out (.inl HNL.out)), HW⟩, by simp [RowKit.intOf]; omega⟩
          · have hjlt : j < nL := by omega
            have hjlt' : (j : Int) < nL := by omega
            by_cases hm4 : m2 ≤ 3000
            · have hm4' : (m2 : Int) ≤ 3000 := by omega
              obtain ⟨b5, o5, x, rfl, hx, hc5⟩ := (HSL.out _ HW.out).1.elem insC insC_len (by decide) j (by rw [← HNL.out]; exact hjlt)
              have d4 := hc5 4 _ rfl
              have hz := (HZ.out.2.2.1 l (List.mem_of_getElem? HLI.out)).2 x (List.mem_of_getElem? hx)
              have hs0 : (str x.t).size = x.t.length := str_size _
              have HN := Lib.hid (HL.out.more HLI.out hx hm4)
              obtain ⟨nn, hnn⟩ : ∃ y, y = x.t.length := ⟨_, rfl⟩
              rw [← hnn] at hs0 HN hz
              generalize str x.t = sn at d4 hs0
              clear hx hc5 hnn
              go_wp2_with fail
              exact ⟨⟨j + 1, m2 + nn / 16, by omega, by omega, by go_num, by go_num, HN, HW⟩, by simp [RowKit.intOf]; omega⟩
            · have hm4' : ¬ (m2 : Int) ≤ 3000 := by omega
              go_wp2_with fail
              exact ⟨⟨i + 1, m2, by omega, hm2, rfl, by go_num, Lib.hid (HL.out.ends HLI.out (.inr (by omega))), HW⟩, by simp [RowKit.intOf]; omega⟩
      · have hm3' : ¬ (m : Int) ≤ 3000 := by omega
        have HR : Hid (LgR c 0 m) := Lib.hid (HL.out.start' (.inr (by omega)))
        go_wp2_with fail
        clear q0 q1
        go_loopw [3, 6] (fun v3 v6 wr2 => ∃ k m2 : Nat, k ≤ nR ∧ m2 ≤ 1000000000000000 ∧ v3 = .int .i64 (m2 : Nat) ∧ v6 = .int .i64 (k : Nat) ∧ Hid (LgR c k m2) ∧ Hid (Below w1.heap.size w1 wr2)) (fun _ v6 _ => nR - (RowKit.intOf v6).toNat)
        case atStart => exact ⟨0, m, Nat.zero_le _, hm, rfl, rfl, HR, HW⟩
        case round =>
          clear HR HL HW
          obtain ⟨k, m2, hk, hm2, rfl, rfl, HL, HW⟩ := hrel
          have hr := HR1.out.after HW.out
          have q1 : wr.cell? ⟨w.heap.size, 1, none⟩ = some (.slice aR nR kR) := hr.cell 1
          clear hr
          have HE : Hid (Below w.heap.size w wr) := Lib.hid (HB1.out.trans (HW.out.mono HB1.out.size))
          by_cases hkn : k = nR
          · have hkn' : nR = k := hkn.symm
            subst hkn'
            have hB := (HL.out.ends (.inl HNR.out.symm)).trans HB.out.symm
            by_cases hm3 : m2 ≤ 3000
            · rw [decide_eq_false (by omega)] at hB
              subst hB
              have hm3' : ¬ (3000 : Int) < m2 := by omega
              go_wp2_with fail
              go_ret
              exact ⟨rfl, HE.out⟩
            · rw [decide_eq_true (by omega)] at hB
              subst hB
              have hm3' : (3000 : Int) < m2 := by omega
              go_wp2_with fail
              go_ret
              exact ⟨rfl, HE.out⟩
          · have hklt : k < nR := by omega
            have hklt' : (k : Int) < nR := by omega
            by_cases hm3 : m2 ≤ 3000
            · have hm3' : (m2 : Int) ≤ 3000 := by omega
              have hs2 : Sl wr 2 (.slice aR nR kR) nR (stCells c.r) := by have := (HC.out.below HW.out).2; rw [HNR.out] at this; exact this
              obtain ⟨b5, o5, x, rfl, hx, hc5⟩ := hs2.elem staC staC_len (by decide) k hklt
              have d0 := hc5 0 _ rfl
              have d1 := hc5 1 _ rfl
              simp only [Nat.add_zero] at d0
              have hz := HZ.out.2.2.2 x (List.mem_of_getElem? hx)
              have hs0 : (str x.n).size = x.n.length := str_size _
              have hs1 : (str x.s).size = x.s.length := str_size _
              have HN := Lib.hid (HL.out.more hx hm3)
              obtain ⟨nn, hnn⟩ : ∃ y, y = x.n.length := ⟨_, rfl⟩
              obtain ⟨ns, hns⟩ : ∃ y, y = x.s.length := ⟨_, rfl⟩
              rw [← hnn] at hs0 HN hz
              rw [← hns] at hs1 HN hz
              have hz1 := hz.1
              have hz2 := hz.2
              generalize str x.n = sn at d0 hs0
              generalize str x.s = ss at d1 hs1
              clear hs2 hx hc5 hz hnn hns
              go_wp2_with fail
              go_quiet (fail)
              rename_i nq
              go_wp2_with fail
              exact ⟨⟨k + 1, m2 + (nn + ns) / 16, by omega, by omega, by go_num, by go_num, HN, Lib.hid (below_drewN HW.out nq)⟩, by simp [RowKit.intOf]; omega⟩
            · have hm3' : ¬ (m2 : Int) ≤ 3000 := by omega
              have hB := (HL.out.ends (.inr (by omega))).trans HB.out.symm
              rw [decide_eq_true (by omega)] at hB
              subst hB
              have hm3'' : (3000 : Int) < m2 := by omega
              go_wp2_with fail
              go_ret
              exact ⟨rfl, HE.out⟩
end Go.Proofs.YtoddklfblcfoiaaDoor
