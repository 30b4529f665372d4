/-
  Images of any size; Load, the program's and the document's; clones apart. No condition.
-/
import Derived.Test.YtcocodpeigbdaaaDskK
namespace Go.Proofs.Ytcocodpeigbdaaa
open Go.RowKit
set_option linter.unusedVariables false
set_option linter.unusedSimpArgs false

/-! ### images of any size -/
set_option maxHeartbeats 1000000 in
theorem copyImage_big (a : Option Addr) (n c : Nat) (L : List (List UInt8)) (w : World) (hl : ImR w (.slice a n c) L) (hn : n ≤ 5864062014805) :
    Calls Try.prog 33 #[.slice a n c] w fun e w' => ∃ v us, e = .returned v ∧ Imgs w' w.heap.size v n us L ∧ Below w.heap.size w w' := by
  have HN := Lib.hid hl.len.1
  go_enter Try.func33, Try.ntmps33
  go_wp2_with fail
  go_loopw [3, 4] (fun v3 v11 wr => ∃ i us a3 c3, i ≤ n ∧ v11 = .int .i64 (i : Nat) ∧ v3 = .slice a3 i c3 ∧ Hid (Imgs wr w.heap.size (.slice a3 i c3) i us (L.take i)) ∧ Below w.heap.size w wr) (fun _ v11 _ => n - (intOf v11).toNat)
  case atStart =>
    exact ⟨0, [], none, 0, Nat.zero_le _, rfl, rfl, Lib.hid ⟨Own.nil _ _ _, by rw [List.take_zero]; exact .nil, fun u hu => by cases hu⟩, Below.refl _ _⟩
  case round =>
    obtain ⟨i, us, a3, c3, hi, rfl, rfl, HI, hb⟩ := hrel
    by_cases hin : i = n
    · subst hin
      go_wp2_with fail
      go_ret
      refine ⟨_, us, rfl, ?_, hb⟩
      have := HI.out
      rwa [List.take_of_length_le (by rw [HN.out]; exact Nat.le_refl _)] at this
    · have hlt : i < n := by omega
      have hlt' : (i : Int) < n := by omega
      obtain ⟨g1, o1, av, cv, rfl, hc, hs⟩ := (hl.below hb).at i hlt
      have HPN : Hid (L.take (i + 1) = L.take i ++ [L.getD i []]) := Lib.hid (by rw [List.take_succ_eq_append_getElem (by rw [HN.out]; exact hlt)]; simp [List.getD_eq_getElem?_getD, List.getElem?_eq_getElem (show i < L.length by rw [HN.out]; exact hlt)])
      generalize L.getD i [] = l at hc hs HPN
      go_wp2_with fail
      refine (copyb_any av l.length cv l wr hs).mono ?_
      rintro e w4 ⟨u, rfl, hou, hbu⟩
      obtain ⟨au, cu, rfl⟩ := hou.form
      have hb5 : Below w4.heap.size w4 (w4.alloc (.cells #[.slice au l.length cu] 22)) := (Below.refl _ _).alloc (Nat.le_refl _) _
      have HI5 := Lib.hid (HI.out.below (hbu.trans (hb5.mono hbu.size)))
      have HU5 := Lib.hid (hou.below hb5)
      have HS5 := Lib.hid (Sl.one w4 (.slice au l.length cu) 22)
      have hbb := (hb.trans (hbu.mono hb.size)).trans (hb5.mono (Nat.le_trans hb.size hbu.size))
      have hsep : ∀ g, (Value.slice au l.length cu).ownBlock = some g → (Value.slice a3 i c3).ownBlock ≠ some g := fun q hq e => by
        have h1 := hou.lt q hq
        have h2 := HI.out.own.lives q e
        omega
      have HSEP := Lib.hid hsep
      clear hsep hou
      go_wp2_with (at_builtin; refine wpL_appendY etBB rfl _ _ rfl HI5.out.own rfl HS5.out rfl (by simp [Value.oneCell']) (by omega) (by simp [maxLen]; omega) hbb.size ?_; intro v6 w6 ho6 hg6 hor6; obtain ⟨a6, c6, rfl⟩ := ho6.form; have HO6 := Lib.hid ho6; have HG6 := Lib.hid hg6; have HR6 := Lib.hid hor6; clear ho6 hg6 hor6)
      refine ⟨⟨i + 1, us ++ [.slice au l.length cu], a6, c6, hlt, by go_num, rfl, Lib.hid ?_, below_own hbb HI5.out.own HG6.out (Nat.le_refl _) hbb.size⟩, by simp [intOf]; omega⟩
      rw [HPN.out]
      exact HI5.out.push (HU5.out.mono hb.size) HSEP.out HO6.out HG6.out HR6.out
set_option maxHeartbeats 1000000 in
theorem sameImage_big (a : Option Addr) (n c : Nat) (L : List (List UInt8)) (a2 : Option Addr) (m c2 : Nat) (M : List (List UInt8)) (w : World) (hl : ImR w (.slice a n c) L) (hm : ImR w (.slice a2 m c2) M) (hn : n ≤ 5864062014805) (hL : ∀ l ∈ L, l.length ≤ 1048576) (hM : ∀ l ∈ M, l.length ≤ 1048576) (B : Bool) (hB : Hid (B = decide (L = M))) :
    Calls Try.prog 26 #[.slice a n c, .slice a2 m c2] w fun e w' => e = .returned (.bool B) ∧ Below w.heap.size w w' := by
  have HN := Lib.hid hl.len.1
  have HM := Lib.hid hm.len.1
  have HLL := Lib.hid hL
  have HML := Lib.hid hM
  clear hL hM
  by_cases hnm : n = m
  rotate_left
  · have hne : ((n : Int) != (m : Int)) = true := by simp; omega
    obtain rfl : B = false := hB.out.trans (decide_eq_false (fun e => hnm (by rw [← HN.out, ← HM.out, e])))
    clear hnm
    go_enter Try.func26, Try.ntmps26
    go_wp2_with fail
    go_ret
    exact ⟨rfl, Below.refl _ _⟩
  · subst hnm
    have hne : ((n : Int) != (n : Int)) = false := by simp
    go_enter Try.func26, Try.ntmps26
    go_wp2_with fail
    go_loopw [5] (fun v5 wr => ∃ i, i ≤ n ∧ v5 = .int .i64 (i : Nat) ∧ Hid (L.take i = M.take i) ∧ Below w.heap.size w wr) (fun v5 _ => n - (intOf v5).toNat)
    case atStart => exact ⟨0, Nat.zero_le _, rfl, Lib.hid (by simp), Below.refl _ _⟩
    case round =>
      obtain ⟨i, hi, rfl, HI, hb⟩ := hrel
      by_cases hin : i = n
      · subst hin
        have e1 : L = M := by
          have := HI.out
          rwa [List.take_of_length_le (by rw [HN.out]; exact Nat.le_refl _), List.take_of_length_le (by rw [HM.out]; exact Nat.le_refl _)] at this
        obtain rfl : B = true := hB.out.trans (decide_eq_true e1)
        clear e1
        go_wp2_with fail
        go_ret
        exact ⟨rfl, hb⟩
      · have hlt : i < n := by omega
        have hlt' : (i : Int) < n := by omega
        have HLi : Hid (i < L.length) := Lib.hid (by rw [HN.out]; exact hlt)
        have HMi : Hid (i < M.length) := Lib.hid (by rw [HM.out]; exact hlt)
        obtain ⟨g1, o1, av, cv, rfl, hc, hs⟩ := (hl.below hb).at i hlt
        obtain ⟨g2, o2, av2, cv2, rfl, hc2, hs2⟩ := (hm.below hb).at i hlt
        have hle := HLL.out _ (getD_mem HLi.out)
        have hle2 := HML.out _ (getD_mem HMi.out)
        have HT : Hid (L.getD i [] = M.getD i [] → L.take (i + 1) = M.take (i + 1)) := Lib.hid (take_succ_eq HLi.out HMi.out HI.out)
        have HF : Hid (¬ L.getD i [] = M.getD i [] → ¬ L = M) := Lib.hid (fun hx e => hx (by rw [e]))
        generalize L.getD i [] = l at hc hs hle HT HF
        generalize M.getD i [] = s at hc2 hs2 hle2 HT HF
        have q1 := later_cell hc
        have q2 := later_cell hc2
        go_wp2_with fail
        refine wp_region_idx Rb Rb_refl Rb_trans [(0,0),(0,1),(0,2),(0,3),(0,4),(0,5),(0,6),(0,7),(1,8),(0,9)] (by kernel_rfl) (by kernel_rfl) (by kernel_rfl) ?_
        simp only [pickO, List.getD_cons_succ, List.getD_cons_zero]
        refine wpCan_seg 8 (by kernel_rfl) ?_
        simp only [List.take_succ_cons, List.take_zero, List.drop_succ_cons, List.drop_zero, List.map_cons, List.map_nil]
        iterate 8 (go_big_quiet_step (fail))
        refine wpQuiet_nil ?_
        clear q1 q2
        refine wpCan_list (k := 0) (fun KK hK => ?_) (fun _ => Rb_refl _)
        go_wp2_with fail
        refine (eqb_any av l.length cv av2 s.length cv2 l s _ hs.drew hs2.drew (by omega) (by omega)).mono ?_
        rintro e w4 ⟨rfl, hb4⟩
        obtain ⟨Q, hQ⟩ : ∃ Q, Q = decide (l = s) := ⟨_, rfl⟩
        rw [← hQ]
        have HQ := Lib.hid hQ
        clear hQ
        go_wp2_with fail
        refine hK _ _ (fun _ => hb4) ?_
        clear hK KK
        have hB4 := hb.drew.trans (hb4.mono hb.size)
        cases Q with
        | true =>
          have hls := of_decide_eq_true HQ.out.symm
          have HT2 := Lib.hid (HT.out hls)
          clear hls HT HF HQ
          refine wpCan_seg 1 (by kernel_rfl) ?_
          simp only [List.take_succ_cons, List.take_zero, List.drop_succ_cons, List.drop_zero, List.map_cons, List.map_nil]
          iterate 1 (go_big_quiet_step (fail))
          refine wpQuiet_nil ?_
          unfold wpCan
          go_wp2_with fail
          exact ⟨⟨i + 1, hlt, by go_num, HT2, hB4⟩, by simp [intOf]; omega⟩
        | false =>
          have hls := of_decide_eq_false HQ.out.symm
          obtain rfl : B = false := hB.out.trans (decide_eq_false (HF.out hls))
          clear hls HT HF HQ
          refine wpCan_seg 1 (by kernel_rfl) ?_
          simp only [List.take_succ_cons, List.take_zero, List.drop_succ_cons, List.drop_zero, List.map_cons, List.map_nil]
          iterate 1 (go_big_quiet_step (fail))
          refine wpQuiet_nil ?_
          unfold wpCan
          go_wp2_with fail
          go_ret
          exact ⟨rfl, hB4⟩

/-! ### clones stand apart -/
def Dis (us : List Value) : Prop := ∀ (i j : Nat) (u v : Value), us[i]? = some u → us[j]? = some v → i ≠ j → ∀ g, u.ownBlock = some g → v.ownBlock ≠ some g
theorem Dis.nils (n : Nat) : Dis (List.replicate n (.slice none 0 0)) := fun i j u v hu hv hij g hg => by
  have h1 := List.mem_of_getElem? hu
  rw [List.eq_of_mem_replicate h1] at hg
  simp [Value.ownBlock] at hg
theorem Dis.set {us : List Value} (h : Dis us) (i : Nat) {x : Value} (hx : ∀ g, x.ownBlock = some g → ∀ u ∈ us, u.ownBlock = some g → False) : Dis (us.set i x) := fun p q u v hu hv hpq g hg e => by
  rw [List.getElem?_set] at hu hv
  split at hu
  · split at hu
    · have hu' := Option.some.inj hu
      subst hu'
      split at hv
      · omega
      · exact hx g hg v (List.mem_of_getElem? hv) e
    · cases hu
  · split at hv
    · split at hv
      · have hv' := Option.some.inj hv
        subst hv'
        exact hx g e u (List.mem_of_getElem? hu) hg
      · cases hv
    · exact h p q u v hu hv hpq g hg e
theorem clones_dis (a : Option Addr) (n c : Nat) (L : List (List UInt8)) (w : World) (hl : ImR w (.slice a n c) L) (hn : n ≤ 1048576) (hL : ∀ l ∈ L, l.length ≤ 1048576) :
    Calls Try.prog 48 #[.slice a n c] w fun e w' => ∃ v us, e = .returned v ∧ Imgs w' w.heap.size v n us L ∧ Dis us ∧ Below w.heap.size w w' := by
  have HN := Lib.hid hl.len.1
  have HL := Lib.hid hL
  clear hL
  go_enter Try.func48, Try.ntmps48
  go_wp2_with (first | (at_make; refine wpL_make etBB rfl rfl _ _ rfl n w.heap.size rfl rfl rfl rfl (by omega) (by simp [maxLen]; omega) (Nat.le_refl _) ?_; rintro v2 w2 hown hb ⟨g, off, rfl, hg⟩; have HO := Lib.hid hown; have HB := Lib.hid hb; have HG := Lib.hid hg; clear hown hb hg))
  obtain ⟨W2, hW2⟩ : ∃ W2 : World, W2 = w2 := ⟨_, rfl⟩
  go_loopw [11] (fun v11 wr => ∃ i us, i ≤ n ∧ v11 = .int .i64 (i : Nat) ∧ Hid (Imgs wr w.heap.size (.slice (some ⟨g, off, none⟩) n n) n us (partL L i)) ∧ Hid (Dis us) ∧ Below w.heap.size w wr ∧ g < wr.heap.size) (fun v11 _ => n - (intOf v11).toNat)
  case atStart =>
    refine ⟨0, List.replicate n (.slice none 0 0), Nat.zero_le _, rfl, Lib.hid ?_, Lib.hid (Dis.nils n), HB.out, HO.out.lives g rfl⟩
    rw [partL_zero, HN.out]
    exact ⟨HO.out, Owns.nils _ _ _, fun u hu g hg => by rw [List.eq_of_mem_replicate hu] at hg; simp [Value.ownBlock] at hg⟩
  case round =>
    obtain ⟨i, us, hi, rfl, HI, DI, hb, hgl⟩ := hrel
    by_cases hin : i = n
    · subst hin
      go_wp2_with fail
      go_ret
      refine ⟨_, us, rfl, ?_, DI.out, hb⟩
      have := HI.out
      rwa [← HN.out, partL_all, HN.out] at this
    · have hlt : i < n := by omega
      have hlt' : (i : Int) < n := by omega
      obtain ⟨g1, o1, av, cv, rfl, hc, hs⟩ := (hl.below hb).at i hlt
      have hle := HL.out _ (getD_mem (L := L) (i := i) (by rw [HN.out]; exact hlt))
      have HPN := Lib.hid (partL_next L i (by rw [HN.out]; exact hlt))
      generalize L.getD i [] = l at hc hs hle HPN
      go_wp2_with fail
      refine (clone_any av l.length cv l wr hs (by omega)).mono ?_
      rintro e w4 ⟨u, rfl, hou, hbu⟩
      obtain ⟨au, cu, rfl⟩ := hou.form
      have HI4 := Lib.hid (HI.out.below hbu)
      have hob := HI4.out.own
      have huL : us.length = n := by have := hob.1; omega
      go_wp2_with (refine wpL_storeOwn (g := 0) rfl _ _ _ rfl (v := .slice au l.length cu) rfl rfl rfl rfl (by kernel_rfl) hob i rfl (by omega) ?_; intro w5 hg5 ho5; have HG5 := Lib.hid hg5; have HO5 := Lib.hid ho5; clear hg5 ho5)
      have hb4 := hb.trans (hbu.mono hb.size)
      refine ⟨⟨i + 1, us.set i (.slice au l.length cu), hlt, by go_num, Lib.hid ?_, Lib.hid (DI.out.set i (fun g hg u hu hgu => by have h1 := hou.lt g hg; have h2 := (HI.out.ins.lives u hu g hgu).2; omega)), below_grown hb4 HG5.out HG.out hb4.size, Nat.lt_of_lt_of_le hgl (Nat.le_trans hbu.size HG5.out.size)⟩, by simp [intOf]; omega⟩
      rw [← HPN.out]
      refine HI4.out.put (hou.mono hb.size) (fun q hq e => ?_) i HO5.out HG5.out
      have h1 := hou.lt q hq
      simp [Value.ownBlock] at e
      omega
theorem image_dis (c : Nat) (col : Nat → Nat) (b : Nat) (D : Dk) (w : World) (h : DkAt 74 c col w b D) (hs : D.S.length ≤ 1048576) (hL : ∀ l ∈ D.S, l.length ≤ 1048576) :
    Calls Try.prog 23 #[.pointer (some ⟨b, 0, none⟩)] w fun e w' => ∃ v us, e = .returned v ∧ Imgs w' w.heap.size v D.S.length us D.S ∧ Dis us ∧ Below w.heap.size w w' := by
  obtain ⟨aS, cS, aP, cP, sv, pv, h⟩ := h
  have c0 : w.cell? ⟨b, 0, none⟩ = some (.slice aS D.S.length cS) := h.row.cell 0
  have H := Lib.hid h
  have HL := Lib.hid hL
  clear h hL
  generalize hn : D.S.length = n at c0 hs
  have HN := Lib.hid hn
  clear hn
  go_enter Try.func23, Try.ntmps23
  go_wp2_with fail
  have himr := H.out.imr
  rw [HN.out] at himr
  refine (clones_dis aS n cS D.S w himr hs HL.out).mono ?_
  rintro e w2 ⟨v, us, rfl, hi, hd, hb⟩
  go_wp2_with fail
  go_ret
  exact ⟨v, us, rfl, hi, hd, hb⟩
/-! ### Load -/
def oddN (n : Nat) : Bool := decide (n ≠ 0) && decide (n ≠ 256)
def oddL (l : List UInt8) : Bool := oddN l.length
def loadIs (S : List (List UInt8)) : Bool := decide (16 ≤ S.length) && decide (S.length ≤ 4096) && !(S.any oddL)
theorem any_take_succ {α : Type} (f : α → Bool) (l : List α) (k : Nat) (d : α) (hk : k < l.length) : (l.take (k + 1)).any f = ((l.take k).any f || f (l.getD k d)) := by
  rw [List.take_succ_eq_append_getElem hk, List.any_append]
  simp [List.getD_eq_getElem?_getD, List.getElem?_eq_getElem hk]
theorem any_of_take {α : Type} (f : α → Bool) (l : List α) (k : Nat) (d : α) (hk : k < l.length) (h : f (l.getD k d) = true) : l.any f = true := by
  rw [List.any_eq_true]
  rw [List.getD_eq_getElem?_getD, List.getElem?_eq_getElem hk] at h
  exact ⟨_, List.getElem_mem hk, h⟩
theorem oddN_cases (n : Nat) : (oddN n = false ∧ n = 0) ∨ (oddN n = false ∧ n = 256) ∨ (oddN n = true ∧ ¬ n = 0 ∧ ¬ n = 256) := by
  by_cases h0 : n = 0
  · exact .inl ⟨by simp [oddN, h0], h0⟩
  by_cases h1 : n = 256
  · exact .inr (.inl ⟨by simp [oddN, h1], h1⟩)
  exact .inr (.inr ⟨by simp [oddN, h0, h1], h0, h1⟩)
theorem odd_any (a : Option Addr) (n c : Nat) (w : World) (B : Bool) (H : Hid (B = oddN n)) : Calls Try.prog 56 #[.slice a n c] w fun e w' => e = .returned (.bool B) ∧ Below w.heap.size w w' := by
  rcases oddN_cases n with ⟨h1, rfl⟩ | ⟨h1, rfl⟩ | ⟨h1, h2, h3⟩
  · obtain rfl : B = false := H.out.trans h1
    go_enter Try.func56, Try.ntmps56
    go_wp2_with fail
    go_ret
    exact ⟨rfl, Below.refl _ _⟩
  · obtain rfl : B = false := H.out.trans h1
    go_enter Try.func56, Try.ntmps56
    go_wp2_with fail
    go_ret
    exact ⟨rfl, Below.refl _ _⟩
  · obtain rfl : B = true := H.out.trans h1
    have e1 : ((n : Int) != 0) = true := by simp; omega
    have e2 : ((n : Int) != 256) = true := by simp; omega
    clear h1 h2 h3
    go_enter Try.func56, Try.ntmps56
    go_wp2_with fail
    go_ret
    exact ⟨rfl, Below.refl _ _⟩
set_option maxHeartbeats 800000 in
theorem oddIndex_any (a : Option Addr) (n c : Nat) (S : List (List UInt8)) (w : World) (hl : ImR w (.slice a n c) S) :
    Calls Try.prog 61 #[.slice a n c, .func (.func 56) #[] #[]] w fun e w' => (∃ z : Int, e = .returned (.int .i64 z) ∧ Hid (decide (0 ≤ z) = S.any oddL)) ∧ Below w.heap.size w w' := by
  have hn := hl.len
  have HN := Lib.hid hn.1
  have hn2 := hn.2
  clear hn
  go_enter Try.func61, Try.ntmps61
  go_wp2_with fail
  go_loopw [5, 8] (fun v5 v8 wr => ∃ k : Nat, k ≤ n ∧ v8 = .int .i64 k ∧ Below w.heap.size w wr ∧ Hid ((S.take k).any oddL = false)) (fun _ v8 _ => n - (intOf v8).toNat)
  case atStart => exact ⟨0, Nat.zero_le _, rfl, Below.refl _ _, Lib.hid (by simp)⟩
  case round =>
    obtain ⟨k, hk, rfl, hb, HT⟩ := hrel
    by_cases hkn : k = n
    · subst hkn
      go_wp2_with fail
      go_ret
      have e := HT.out
      rw [List.take_of_length_le (by rw [HN.out]; exact Nat.le_refl _)] at e
      exact ⟨⟨_, rfl, Lib.hid (by rw [e]; rfl)⟩, hb⟩
    · have hlt : k < n := by omega
      have hlt' : (k : Int) < n := by omega
      obtain ⟨g1, o1, av, cv, rfl, hc, hs⟩ := (hl.below hb).at k hlt
      have HT1 : Hid ((S.take (k + 1)).any oddL = ((S.take k).any oddL || oddL (S.getD k []))) := any_take_succ _ _ _ _ (by rw [HN.out]; exact hlt)
      have HA : Hid (oddL (S.getD k []) = true → S.any oddL = true) := any_of_take _ _ _ _ (by rw [HN.out]; exact hlt)
      have HB : Hid (oddL (S.getD k []) = oddN (S.getD k []).length) := rfl
      generalize (S.getD k []).length = q at hc HB
      generalize oddL (S.getD k []) = B at HB HT1 HA
      clear hs
      cases B with
      | true =>
        go_wp2_with (go_at_call 56; refine (odd_any _ _ _ _ true HB).mono ?_; rintro e w' ⟨rfl, hb2⟩)
        go_ret
        exact ⟨⟨_, rfl, Lib.hid (by rw [HA.out trivial]; exact decide_eq_true (Int.natCast_nonneg k))⟩, hb.trans (hb2.mono hb.size)⟩
      | false =>
        go_wp2_with (go_at_call 56; refine (odd_any _ _ _ _ false HB).mono ?_; rintro e w' ⟨rfl, hb2⟩)
        exact ⟨⟨k + 1, by omega, by go_num, hb.trans (hb2.mono hb.size), Lib.hid (by rw [HT1.out, HT.out]; rfl)⟩, by simp [intOf]; omega⟩
theorem oddContains_any (a : Option Addr) (n c : Nat) (S : List (List UInt8)) (w : World) (hl : ImR w (.slice a n c) S) (B : Bool) (H : Hid (B = S.any oddL)) :
    Calls Try.prog 57 #[.slice a n c, .func (.func 56) #[] #[]] w fun e w' => e = .returned (.bool B) ∧ Below w.heap.size w w' := by
  go_enter Try.func57, Try.ntmps57
  go_wp2_with fail
  refine (oddIndex_any a n c S w hl).mono ?_
  rintro e w1 ⟨⟨z, rfl, hz⟩, hb⟩
  go_wp2_with fail
  go_ret
  rw [H.out, ← hz.out]
  exact ⟨rfl, hb⟩
def LoadP (e : TypeId) (c : Nat) (col : Nat → Nat) (w : World) (S : List (List UInt8)) (x : Ending) (w' : World) : Prop :=
  (x = .returned (.tuple #[.pointer none, .int .i64 1]) ∧ loadIs S = false ∧ Below w.heap.size w w') ∨ (∃ b, x = .returned (.tuple #[.pointer (some ⟨b, 0, none⟩), .int .i64 0]) ∧ loadIs S = true ∧ MadeNew e c col w b (loadD S) w')
theorem odd_len {S : List (List UInt8)} (h : S.any oddL = false) : ∀ l ∈ S, l.length = 0 ∨ l.length = 256 := fun l hl => by
  have h1 := List.any_eq_false.1 h l hl
  have h2 : oddN l.length = false := by cases hq : oddN l.length with | false => rfl | true => exact absurd hq h1
  rcases oddN_cases l.length with ⟨_, h3⟩ | ⟨_, h3⟩ | ⟨h3, _⟩
  · exact .inl h3
  · exact .inr h3
  · rw [h2] at h3; cases h3
set_option maxHeartbeats 1000000 in
theorem load_p (a : Option Addr) (n cc : Nat) (S : List (List UInt8)) (c : Nat) (hc : c ≠ 0) (col : Nat → Nat) (w : World) (hl : ImR w (.slice a n cc) S) :
    Calls Try.prog 34 #[.slice a n cc] w (LoadP 74 c col w S) := by
  have HN := Lib.hid hl.len.1
  have hnm := hl.len.2
  have HL := Lib.hid hl
  clear hl
  by_cases hr : 16 ≤ n ∧ n ≤ 4096
  rotate_left
  · have HLI : Hid (loadIs S = false) := Lib.hid (by
      rw [loadIs, HN.out, Bool.and_eq_false_iff]; left; rw [← Bool.not_eq_true]; simp; omega)
    have HRR : Hid (false = (decide (16 ≤ (n : Int)) && decide ((n : Int) ≤ 4096))) := Lib.hid (by symm; rw [← Bool.not_eq_true]; simp; omega)
    clear hr
    go_enter Try.func34, Try.ntmps34
    go_wp2_with fail
    refine (right_any n w false HRR).mono ?_
    rintro e w1 ⟨rfl, rfl⟩
    go_wp2_with fail
    go_ret2
    exact .inl ⟨rfl, HLI.out, Below.refl _ _⟩
  have HRR : Hid (true = (decide (16 ≤ (n : Int)) && decide ((n : Int) ≤ 4096))) := Lib.hid (by symm; simp; omega)
  have hn4 : n ≤ 4096 := hr.2
  have HR := Lib.hid hr
  clear hr
  cases hodd : S.any oddL with
  | true =>
    have HO := Lib.hid hodd.symm
    have HLI : Hid (loadIs S = false) := Lib.hid (by rw [loadIs, hodd]; simp)
    clear hodd
    go_enter Try.func34, Try.ntmps34
    go_wp2_with fail
    refine (right_any n w true HRR).mono ?_
    rintro e w1 ⟨rfl, rfl⟩
    go_wp2_with fail
    refine (oddContains_any a n cc S w HL.out true HO).mono ?_
    rintro e w1 ⟨rfl, hb⟩
    go_wp2_with fail
    go_ret2
    exact .inl ⟨rfl, HLI.out, hb⟩
  | false =>
    have HO := Lib.hid hodd.symm
    have HLI : Hid (loadIs S = true) := Lib.hid (by rw [loadIs, hodd, HN.out]; have := HR.out; simp; omega)
    have HLe : Hid (∀ l ∈ S, l.length ≤ 1048576) := Lib.hid (fun l hl => by rcases odd_len hodd l hl with h | h <;> omega)
    clear hodd
    go_enter Try.func34, Try.ntmps34
    go_wp2_with fail
    refine (right_any n w true HRR).mono ?_
    rintro e w1 ⟨rfl, rfl⟩
    go_wp2_with fail
    refine (oddContains_any a n cc S w HL.out false HO).mono ?_
    rintro e w1 ⟨rfl, hb⟩
    go_wp2_with fail
    refine (clones_any a n cc S w1 (HL.out.below hb) (by omega) HLe.out).mono ?_
    rintro e w2 ⟨v, us, rfl, hi, hb2⟩
    obtain ⟨a2, c2, rfl⟩ := hi.own.form
    have HI := Lib.hid hi
    have HB := Lib.hid hb
    have HB2 := Lib.hid hb2
    clear hi hb hb2
    go_wp2_with fail
    go_ret2
    have hb3 : Below w2.heap.size w2 (w2.alloc (.cells #[.slice a2 n c2, .slice none 0 0, .bool false, .int .i64 0, .int .i64 0] 74)) := (Below.refl _ _).alloc (Nat.le_refl _) _
    have hb12 := HB.out.trans (HB2.out.mono HB.out.size)
    exact .inr ⟨w2.heap.size, rfl, HLI.out, madeNew (hb12.trans (hb3.mono hb12.size)) hc HN.out.symm (Row.new _ _ _) hb12.size ((HI.out.below hb3).mono HB.out.size) (fun e => by have := HI.out.own.lives _ e; omega) (fun u hu e => by have := (HI.out.ins.lives u hu _ e).2; omega)⟩
set_option maxHeartbeats 2000000 in
theorem rload_p (a : Option Addr) (n cc : Nat) (S : List (List UInt8)) (c : Nat) (hc : c ≠ 0) (col : Nat → Nat) (w : World) (hl : ImR w (.slice a n cc) S) :
    Calls Try.prog 35 #[.slice a n cc] w (LoadP 59 c col w S) := by
  have HN := Lib.hid hl.len.1
  have hnm := hl.len.2
  have HL := Lib.hid hl
  clear hl
  by_cases hr : 16 ≤ n ∧ n ≤ 4096
  rotate_left
  · have HLI : Hid (loadIs S = false) := Lib.hid (by
      rw [loadIs, HN.out, Bool.and_eq_false_iff]; left; rw [← Bool.not_eq_true]; simp; omega)
    rcases (show (n : Int) < 16 ∨ ¬ (n : Int) < 16 ∧ (4096 : Int) < n by omega) with h0 | ⟨h0, h1⟩
    · clear hr
      go_enter Try.func35, Try.ntmps35
      go_wp2_with fail
      go_ret2
      exact .inl ⟨rfl, HLI.out, Below.refl _ _⟩
    · clear hr
      go_enter Try.func35, Try.ntmps35
      go_wp2_with fail
      go_ret2
      exact .inl ⟨rfl, HLI.out, Below.refl _ _⟩
  have hk0 : ¬ (n : Int) < 16 := by omega
  have hk1 : ¬ (4096 : Int) < n := by omega
  have hn4 : n ≤ 4096 := hr.2
  have HR := Lib.hid hr
  clear hr
  go_enter Try.func35, Try.ntmps35
  go_wp2_with fail
  go_loopw [5] (fun v11 wr => ∃ i us aq c', i ≤ n ∧ v11 = .int .i64 (i : Nat) ∧ Hid (Row wr w.heap.size 59 [.slice aq i c', .slice none 0 0, .bool false, .int .i64 0, .int .i64 0]) ∧ Hid (Imgs wr (w.heap.size + 1) (.slice aq i c') i us (S.take i)) ∧ Hid ((S.take i).any oddL = false) ∧ Below w.heap.size w wr) (fun v11 _ => n - (intOf v11).toNat)
  case atStart => exact ⟨0, [], none, 0, Nat.zero_le _, rfl, Lib.hid (Row.new _ _ _), Lib.hid ⟨Own.nil _ _ _, .nil, fun u hu => by cases hu⟩, Lib.hid (by simp), (Below.refl _ _).alloc (Nat.le_refl _) _⟩
  case round =>
    obtain ⟨i, us, aq, c', hi, rfl, HRW, HI, HT, hb⟩ := hrel
    by_cases hik : i = n
    · subst hik
      go_wp2_with fail
      go_ret2
      have hI := HI.out
      have hT := HT.out
      rw [List.take_of_length_le (by rw [HN.out]; exact Nat.le_refl _)] at hI hT
      exact .inr ⟨w.heap.size, rfl, by rw [loadIs, hT, HN.out]; have := HR.out; simp; omega, madeNew hb hc HN.out.symm HRW.out (Nat.le_refl _) (hI.mono (Nat.le_succ _)) (fun e => by have := hI.own.lt _ e; omega) (fun u hu e => by have := (hI.ins.lives u hu _ e).1; omega)⟩
    · have hlt : i < n := by omega
      have hlt' : (i : Int) < n := by omega
      obtain ⟨g1, o1, av, cv, rfl, hcw, hsw⟩ := HL.out.at i hlt
      have hg1 := lt_of_cell hcw
      have HT1 : Hid ((S.take (i + 1)).any oddL = ((S.take i).any oddL || oddL (S.getD i []))) := any_take_succ _ _ _ _ (by rw [HN.out]; exact hlt)
      have HA : Hid (oddL (S.getD i []) = true → S.any oddL = true) := any_of_take _ _ _ _ (by rw [HN.out]; exact hlt)
      have HPN : Hid (S.take (i + 1) = S.take i ++ [S.getD i []]) := Lib.hid (by rw [List.take_succ_eq_append_getElem (by rw [HN.out]; exact hlt)]; simp [List.getD_eq_getElem?_getD, List.getElem?_eq_getElem (show i < S.length by rw [HN.out]; exact hlt)])
      generalize S.getD i [] = l at hcw hsw HT1 HA HPN
      have hcr := (hb.cell hg1).trans hcw
      rcases (show (oddN l.length = true ∧ ¬ l.length = 0 ∧ ¬ l.length = 256) ∨ (oddN l.length = false ∧ ((((l.length : Int) != 0) = false) ∨ (((l.length : Int) != 0) = true ∧ ((l.length : Int) != 256) = false))) by
        rcases oddN_cases l.length with ⟨h1, h2⟩ | ⟨h1, h2⟩ | h1
        · exact .inr ⟨h1, .inl (by rw [h2]; rfl)⟩
        · exact .inr ⟨h1, .inr ⟨by rw [h2]; rfl, by rw [h2]; rfl⟩⟩
        · exact .inl h1) with ⟨hodd, h0, h1⟩ | ⟨hodd, e1 | ⟨e1, e2⟩⟩
      · have e1 : ((l.length : Int) != 0) = true := by simp; intro e; rw [e] at h0; exact h0 rfl
        have e2 : ((l.length : Int) != 256) = true := by simp; omega
        have HLI : Hid (loadIs S = false) := Lib.hid (by rw [loadIs, HA.out hodd]; simp)
        clear h0 h1 hodd hcw
        go_wp2_with fail
        go_ret2
        exact .inl ⟨rfl, HLI.out, hb⟩
      all_goals
        have e0 : wr.cell? ⟨w.heap.size, 0, none⟩ = some (.slice aq i c') := HRW.out.cell 0
        have hOw : w.heap.size + 1 ≤ wr.heap.size := Nat.succ_le_of_lt HRW.out.lt
        have q0 := laterL_cell (B := w.heap.size + 1) e0 (by omega)
        have q1 := laterL_cell (B := w.heap.size + 1) hcr (by omega)
        have HSL := Lib.hid (hsw.below hb)
        have HT2 : Hid ((S.take (i + 1)).any oddL = false) := Lib.hid (by rw [HT1.out, HT.out]; exact hodd)
        obtain ⟨nl, hnl⟩ : ∃ x, x = l.length := ⟨_, rfl⟩
        rw [← hnl] at hcr q1 HSL e1
        try rw [← hnl] at e2
        have HNL := Lib.hid hnl
        clear hcw hsw hodd hnl
        go_wp2_with fail
        refine wp_region_idx (RbL (w.heap.size + 1)) (RbL_refl _) (RbL_trans _) [(0,0),(0,1),(0,2),(0,3),(0,4),(0,5),(0,6),(0,7),(0,8),(1,9),(1,10),(1,11),(0,12),(0,13),(2,14)] (by kernel_rfl) (by kernel_rfl) (by kernel_rfl) ?_
        simp only [pickO, List.getD_cons_succ, List.getD_cons_zero]
        refine wpCan_seg 9 (by kernel_rfl) ?_
        simp only [List.take_succ_cons, List.take_zero, List.drop_succ_cons, List.drop_zero, List.map_cons, List.map_nil]
        iterate 9 (go_big_quiet_step (fail))
        refine wpQuiet_nil ?_
        clear q0 q1
        refine wpCan_list (k := 0) (fun KK hK => ?_) (fun _ => RbL_refl _ _)
        go_wp2_with fail
        refine (copyb_any av _ cv l _ HSL.out.drew).mono ?_
        rintro e w2 ⟨u, rfl, hou, hbu0⟩
        obtain ⟨au, cu, rfl⟩ := hou.form
        go_wp2_with fail
        refine hK _ _ (fun _ => hbu0.mono hOw) ?_
        clear hK KK
        have hbu : Below wr.heap.size wr w2 := (Below.refl _ _).drew.trans hbu0
        clear hbu0
        have hb5 : Below w2.heap.size w2 (w2.alloc (.cells #[.slice au nl cu] 22)) := (Below.refl _ _).alloc (Nat.le_refl _) _
        have hbA : Below wr.heap.size wr (w2.alloc (.cells #[.slice au nl cu] 22)) := hbu.trans (hb5.mono hbu.size)
        have HI5 := Lib.hid (HI.out.below hbA)
        have HU5 := Lib.hid (hou.below hb5)
        have HS5 := Lib.hid (Sl.one w2 (.slice au nl cu) 22)
        have hbb := hb.trans (hbA.mono hb.size)
        have hR5 := HRW.out.after hbA
        have hsep : ∀ g, (Value.slice au nl cu).ownBlock = some g → (Value.slice aq i c').ownBlock ≠ some g := fun q hq e => by
          have h1 : wr.heap.size ≤ q := hou.lt q hq
          have h2 := HI.out.own.lives q e
          omega
        have HSEP := Lib.hid hsep
        have HBU := Lib.hid (hou.mono (show w.heap.size + 1 ≤ wr.heap.size from Nat.succ_le_of_lt HRW.out.lt))
        have HR5 := Lib.hid hR5
        have hrow : ∀ w6, (w2.alloc (.cells #[.slice au nl cu] 22)).grownBy w6 (Value.slice aq i c').ownBlock → Row w6 w.heap.size 59 [.slice aq i c', .slice none 0 0, .bool false, .int .i64 0, .int .i64 0] := fun w6 hg => HR5.out.grown hg (fun e => by
          have := HI5.out.own.lt _ e.symm
          omega)
        have HROW := Lib.hid hrow
        have HB5 := Lib.hid hb5
        have hOw2 : w.heap.size + 1 ≤ w2.heap.size := Nat.le_trans hOw hbu.size
        clear hou hb5 hsep hR5 hrow
        refine wpCan_list (k := 0) (fun KK hK => ?_) (fun _ => RbL_refl _ _)
        go_wp2_with fail
        refine hK _ _ (fun _ => HB5.out.mono hOw2) ?_
        clear hK KK
        refine wpCan_list (k := 0) (fun KK hK => ?_) (fun _ => RbL_refl _ _)
        go_wp2_with (at_builtin; refine wpL_appendY etBB rfl _ _ rfl HI5.out.own rfl HS5.out rfl (by simp [Value.oneCell']) (by omega) (by simp [maxLen]; omega) (Nat.le_trans (Nat.succ_le_of_lt HRW.out.lt) hbA.size) ?_; intro v6 w6 ho6 hg6 hor6; obtain ⟨a6, c6, rfl⟩ := ho6.form; have HO6 := Lib.hid ho6; have HG6 := Lib.hid hg6; have HR6 := Lib.hid hor6; clear ho6 hg6 hor6)
        have hb56 := below_own (Below.refl (w.heap.size + 1) _) HI5.out.own HG6.out (Nat.le_refl _) (Nat.le_trans hOw hbA.size)
        refine hK _ _ (fun _ => hb56) ?_
        clear hK KK hb56
        have hrw6 := HROW.out w6 HG6.out
        refine wpCan_seg 2 (by kernel_rfl) ?_
        simp only [List.take_succ_cons, List.take_zero, List.drop_succ_cons, List.drop_zero, List.map_cons, List.map_nil]
        iterate 2 (go_big_quiet_step (fail))
        refine wpQuiet_nil ?_
        refine wpCan_list (k := 1) (fun KK hK => ?_) (fun h => by cases h)
        refine wpL_storeAt rfl _ _ _ rfl rfl rfl rfl rfl (by kernel_rfl) hrw6 rfl ?_
        intro w7 hg7 hr7
        refine hK _ _ (fun h => by cases h) ?_
        clear hK KK
        unfold wpCan
        go_wp2_with fail
        have hb6 : Below w.heap.size w w6 := below_own hbb HI5.out.own HG6.out (by omega) hbb.size
        refine ⟨⟨i + 1, us ++ [.slice au nl cu], a6, c6, hlt, by go_num, Lib.hid hr7, Lib.hid ?_, HT2, below_grown hb6 hg7 (Nat.le_refl _) hb6.size⟩, by simp [intOf]; omega⟩
        rw [HPN.out]
        have hI6 := HI5.out.push (l := l) (by rw [← HNL.out]; exact HU5.out.mono (Nat.succ_le_of_lt HRW.out.lt)) HSEP.out HO6.out HG6.out HR6.out
        exact ⟨hI6.own.kept hg7 (by
          cases hq : (Value.slice a6 (i + 1) c6).ownBlock with
          | none => exact .inl rfl
          | some g => exact .inr (fun e => by have := hI6.own.lt g hq; cases e; omega)), hI6.ins.kept hg7 (fun u hu g hg e => by have := (hI6.ins.lives u hu g hg).1; cases e; omega), hI6.sep⟩
end Go.Proofs.Ytcocodpeigbdaaa
