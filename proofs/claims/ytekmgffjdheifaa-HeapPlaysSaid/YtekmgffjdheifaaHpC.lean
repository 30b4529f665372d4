/-
  What a heap tells: Word, Oid, Of, Used, Count, Limit. Conditions: the heap reads as one.
-/
import Derived.Test.YtekmgffjdheifaaHpB
namespace Go.Proofs.Ytekmgffjdheifaa
open Go.RowKit
set_option linter.unusedVariables false
set_option linter.unusedSimpArgs false
set_option maxRecDepth 100000

def wordIs (H : List Th) (k i : Int) : Bool := (thAt H k).is && decide (0 ≤ i ∧ i < (thAt H k).o.l.length)
def wordAt (H : List Th) (k i : Int) : UInt8 × Int := if wordIs H k i then (thAt H k).o.l.getD i.toNat (0, 0) else (0, 0)
def keysL (H : List Th) : List Int := ((List.range H.length).filter fun i => (H.getD i noTh).is).map Int.ofNat
theorem map_nodup {l : List Nat} (h : l.Nodup) : (l.map Int.ofNat).Nodup := List.Pairwise.map _ (fun a b hab e => hab (Int.ofNat.inj e)) h
theorem keysL_nodup (H : List Th) : (keysL H).Nodup := map_nodup (List.Pairwise.filter _ List.nodup_range)
theorem mem_keysL (H : List Th) (k : Int) : k ∈ keysL H ↔ (thAt H k).is = true := by
  unfold keysL
  constructor
  · intro h
    obtain ⟨i, hi, rfl⟩ := List.mem_map.1 h
    have := (List.mem_filter.1 hi).2
    show (thAt H (i : Int)).is = true
    rw [thAt_nat]
    exact this
  · intro h
    obtain ⟨i, rfl, hl, e⟩ := thAt_is h
    rw [e] at h
    exact List.mem_map.2 ⟨i, List.mem_filter.2 ⟨List.mem_range.2 hl, h⟩, rfl⟩
theorem range_count (p : Th → Bool) : ∀ H : List Th, ((List.range H.length).filter fun i => p (H.getD i noTh)).length = H.countP p := fun H => by
  rw [← List.countP_eq_length_filter]
  induction H with
  | nil => rfl
  | cons h H ih =>
    rw [List.length_cons, List.range_succ_eq_map, List.countP_cons, List.countP_map, List.countP_cons]
    simp only [List.getD_cons_zero]
    rw [← ih]
    congr 1
theorem keysL_len (H : List Th) : (keysL H).length = countH H := by
  unfold keysL countH
  rw [List.length_map]
  exact range_count (·.is) H
section
variable {col : Nat → Nat} {w : World} {b m bm bt : Nat} {H : List Th} {ks ts : List Int} {at_ : Int → Option Nat} {tf : Int → Int}
theorem HpIn.perm (h : HpIn col w b m H bm bt ks at_ ts tf) : ks.Perm (keysL H) :=
  (List.perm_ext_iff_of_nodup h.mp.nodup (keysL_nodup H)).2 fun k => (h.keys k).trans (mem_keysL H k).symm
theorem HpIn.count (h : HpIn col w b m H bm bt ks at_ ts tf) : ks.length = countH H := h.perm.length_eq.trans (keysL_len H)
set_option maxHeartbeats 1600000 in
theorem word_p (h : HpIn col w b m H bm bt ks at_ ts tf) (hg : Good H m) (k i : Int) (hk : (Lit.int .i64 k).wf = true) (B : Bool) (hB : Hid (B = wordIs H k i)) (x : UInt8 × Int) (hx : Hid (x = wordAt H k i)) :
    Calls Try.prog 44 #[.pointer (some ⟨b, 0, none⟩), .int .i64 k, .int .i64 i] w fun e w' => e = .returned (.tuple #[.agg #[.int .u8 (x.1.toNat : Int), .int .i64 x.2], .bool B]) ∧ Below w.heap.size w w' := by
  have hb1 : Below w.heap.size w (w.alloc (.cells #[.int .u8 0, .int .i64 0] 47)) := (Below.refl _ _).alloc (Nat.le_refl _) _
  have hr := Row.new w [.int .u8 0, .int .i64 0] 47
  have HH := Lib.hid (h.fresh hb1)
  cases hi : (thAt H k).is with
  | false =>
    have hB0 : B = false := by rw [hB.out, wordIs, hi]; rfl
    have hx0 : x = (0, 0) := by rw [hx.out, wordAt, ← hB.out, hB0]; rfl
    subst hB0 hx0
    have H0 := Lib.hid hi
    clear hi h
    go_enter Try.func44, Try.ntmps44
    go_wp2_with (first | (go_at_call 47; refine (thing_no HH.out k hk H0.out).mono ?_; rintro e w1 ⟨rfl, rfl⟩) | (refine wpL_storeRow rfl _ _ _ rfl (cs := [.int .u8 0, .int .i64 0]) rfl rfl hr (by kernel_rfl) rfl rfl ?_; intro w6 hg6 hr6))
    try simp only [Exit.inBlock, Exit.then]
    refine bodyPost_ret (results_cell_wordB rfl rfl hr6) rfl ?_
    exact ⟨rfl, below_grown hb1 hg6 (Nat.le_refl _) hb1.size⟩
  | true =>
    obtain ⟨g, v, hat, hth⟩ := HH.out.has hi
    have d2 := hth.cell 2
    simp only [thRow, List.getElem?_cons_zero, List.getElem?_cons_succ] at d2
    have ho := hth.own.1
    obtain ⟨n, hn⟩ : ∃ n, n = (thAt H k).o.l.length := ⟨_, rfl⟩
    rw [← hn] at ho
    have HB : Hid (B = decide (0 ≤ i ∧ i < (n : Int))) := Lib.hid (by rw [hB.out, wordIs, hi, hn]; rfl)
    have HX : Hid (x = if B then (thAt H k).o.l.getD i.toNat (0, 0) else (0, 0)) := Lib.hid (by rw [hx.out, wordAt, ← hB.out])
    have HN := Lib.hid hn
    obtain ⟨a, c, rfl⟩ := ho.form
    have HO := Lib.hid ho
    have hcap := ho.sl.wordLen.2
    clear hB hx hn ho hth h hi
    by_cases h0 : i < 0
    · obtain rfl : B = false := by rw [HB.out, decide_eq_false (by omega)]
      obtain rfl : x = (0, 0) := HX.out
      go_enter Try.func44, Try.ntmps44
      go_wp2_with (first | (go_at_call 47; refine (thing_yes HH.out k hk hat).mono ?_; rintro e w1 ⟨rfl, rfl⟩) | (refine wpL_storeRow rfl _ _ _ rfl (cs := [.int .u8 0, .int .i64 0]) rfl rfl hr (by kernel_rfl) rfl rfl ?_; intro w6 hg6 hr6))
      try simp only [Exit.inBlock, Exit.then]
      refine bodyPost_ret (results_cell_wordB rfl rfl hr6) rfl ?_
      exact ⟨rfl, below_grown hb1 hg6 (Nat.le_refl _) hb1.size⟩
    obtain ⟨j, rfl⟩ : ∃ j : Nat, i = j := ⟨i.toNat, by omega⟩
    clear h0
    by_cases h1 : n ≤ j
    · obtain rfl : B = false := by rw [HB.out, decide_eq_false (by omega)]
      obtain rfl : x = (0, 0) := HX.out
      have h1' : (n : Int) ≤ j := by omega
      go_enter Try.func44, Try.ntmps44
      go_wp2_with (first | (go_at_call 47; refine (thing_yes HH.out k hk hat).mono ?_; rintro e w1 ⟨rfl, rfl⟩) | (refine wpL_storeRow rfl _ _ _ rfl (cs := [.int .u8 0, .int .i64 0]) rfl rfl hr (by kernel_rfl) rfl rfl ?_; intro w6 hg6 hr6))
      try simp only [Exit.inBlock, Exit.then]
      refine bodyPost_ret (results_cell_wordB rfl rfl hr6) rfl ?_
      exact ⟨rfl, below_grown hb1 hg6 (Nat.le_refl _) hb1.size⟩
    have hlt : j < n := by omega
    have hlt' : (j : Int) < n := by omega
    obtain rfl : B = true := by rw [HB.out, decide_eq_true (by omega)]
    have hx : x = (thAt H k).o.l.getD j (0, 0) := HX.out
    obtain ⟨b1, o1, rfl, hc1, hc2⟩ := HO.out.sl.word hlt
    rw [← hx] at hc1 hc2
    clear hx HX HB h1
    go_enter Try.func44, Try.ntmps44
    go_wp2_with (first | (go_at_call 47; refine (thing_yes HH.out k hk hat).mono ?_; rintro e w1 ⟨rfl, rfl⟩) | (refine wpL_storeRow rfl _ _ _ rfl (cs := [.int .u8 (x.1.toNat : Int), .int .i64 x.2]) rfl rfl hr (by kernel_rfl) rfl rfl ?_; intro w6 hg6 hr6))
    try simp only [Exit.inBlock, Exit.then]
    refine bodyPost_ret (results_cell_wordB rfl rfl hr6) rfl ?_
    exact ⟨rfl, below_grown hb1 hg6 (Nat.le_refl _) hb1.size⟩
theorem oid_p (h : HpIn col w b m H bm bt ks at_ ts tf) (hg : Good H m) (k : Int) (hk : (Lit.int .i64 k).wf = true) (x : Int) (hx : Hid (x = (thAt H k).oid)) :
    Calls Try.prog 20 #[.pointer (some ⟨b, 0, none⟩), .int .i64 k] w fun e w' => e = .returned (.tuple #[.int .i64 x, .bool (decide (0 < x))]) ∧ Below w.heap.size w w' := by
  have HH := Lib.hid h
  cases hi : (thAt H k).is with
  | false =>
    have hx0 : x = 0 := by rw [hx.out, hg.non k hi]; rfl
    subst hx0
    have H0 := Lib.hid hi
    clear hi h
    go_enter Try.func20, Try.ntmps20
    go_wp2_with fail
    refine (thing_no HH.out k hk H0.out).mono ?_
    rintro e w1 ⟨rfl, rfl⟩
    go_wp2_with fail
    go_ret2
    exact ⟨rfl, Below.refl _ _⟩
  | true =>
    obtain ⟨g, v, hat, hth⟩ := h.has hi
    have d4 := hth.cell 4
    simp only [thRow, List.getElem?_cons_zero, List.getElem?_cons_succ] at d4
    rw [← hx.out] at d4
    clear hx hi h hth
    by_cases h0 : 0 < x
    · go_enter Try.func20, Try.ntmps20
      go_wp2_with fail
      refine (thing_yes HH.out k hk hat).mono ?_
      rintro e w1 ⟨rfl, rfl⟩
      go_wp2_with fail
      go_quiet (fail)
      go_wp2_with fail
      go_ret2
      exact ⟨by simp [h0], below_drewN (Below.refl _ _) nq⟩
    · have h0' : x ≤ 0 := by omega
      go_enter Try.func20, Try.ntmps20
      go_wp2_with fail
      refine (thing_yes HH.out k hk hat).mono ?_
      rintro e w1 ⟨rfl, rfl⟩
      go_wp2_with fail
      go_quiet (fail)
      go_wp2_with fail
      go_ret2
      exact ⟨by simp [h0], below_drewN (Below.refl _ _) nq⟩
theorem of_p (h : HpIn col w b m H bm bt ks at_ ts tf) (x : Int) (hk : (Lit.int .i64 x).wf = true) (k : Int) (hx : Hid (k = ofH H x)) :
    Calls Try.prog 32 #[.pointer (some ⟨b, 0, none⟩), .int .i64 x] w fun e w' => e = .returned (.tuple #[.int .i64 k, .bool (decide (0 < k))]) ∧ w = w' := by
  have c4 := h.c4
  have hl := h.tlook hk
  rw [← hx.out] at hl
  clear h hx
  go_enter Try.func32, Try.ntmps32
  go_wp2_with fail
  go_ret2
  exact ⟨rfl, rfl⟩
theorem used_p (h : HpIn col w b m H bm bt ks at_ ts tf) : Calls Try.prog 18 #[.pointer (some ⟨b, 0, none⟩)] w fun e w' => e = .returned (.int .i64 (usedH H : Nat)) ∧ w = w' := by
  have c1 := h.c1
  clear h
  go_enter Try.func18, Try.ntmps18
  go_wp2_with fail
  go_ret
  exact ⟨rfl, rfl⟩
theorem limit_p (h : HpIn col w b m H bm bt ks at_ ts tf) : Calls Try.prog 39 #[.pointer (some ⟨b, 0, none⟩)] w fun e w' => e = .returned (.int .i64 (m : Nat)) ∧ w = w' := by
  have c1 := h.c0
  clear h
  go_enter Try.func39, Try.ntmps39
  go_wp2_with fail
  go_ret
  exact ⟨rfl, rfl⟩
theorem count_p (h : HpIn col w b m H bm bt ks at_ ts tf) : Calls Try.prog 28 #[.pointer (some ⟨b, 0, none⟩)] w fun e w' => e = .returned (.int .i64 (countH H : Nat)) ∧ w = w' := by
  have c3 := h.c3
  have hlen := h.mp.len mapTh 3
  rw [h.count] at hlen
  clear h
  go_enter Try.func28, Try.ntmps28
  go_wp2_with fail
  go_ret
  exact ⟨rfl, rfl⟩
end
theorem word_nil (k i : Int) (w : World) : Calls Try.prog 44 #[.pointer none, .int .i64 k, .int .i64 i] w fun e w' => e = .returned (.tuple #[.agg #[.int .u8 0, .int .i64 0], .bool false]) ∧ Below w.heap.size w w' := by
  have hb1 : Below w.heap.size w (w.alloc (.cells #[.int .u8 0, .int .i64 0] 47)) := (Below.refl _ _).alloc (Nat.le_refl _) _
  have hr := Row.new w [.int .u8 0, .int .i64 0] 47
  go_enter Try.func44, Try.ntmps44
  go_wp2_with (first | (go_at_call 47; refine (thing_nil k _).mono ?_; rintro e w1 ⟨rfl, rfl⟩) | (refine wpL_storeRow rfl _ _ _ rfl (cs := [.int .u8 0, .int .i64 0]) rfl rfl hr (by kernel_rfl) rfl rfl ?_; intro w6 hg6 hr6))
  try simp only [Exit.inBlock, Exit.then]
  refine bodyPost_ret (results_cell_wordB rfl rfl hr6) rfl ?_
  exact ⟨rfl, below_grown hb1 hg6 (Nat.le_refl _) hb1.size⟩
theorem oid_nil (k : Int) (w : World) : Calls Try.prog 20 #[.pointer none, .int .i64 k] w fun e w' => e = .returned (.tuple #[.int .i64 0, .bool false]) ∧ w = w' := by
  go_enter Try.func20, Try.ntmps20
  go_wp2_with fail
  refine (thing_nil k _).mono ?_
  rintro e w1 ⟨rfl, rfl⟩
  go_wp2_with fail
  go_ret2
  exact ⟨rfl, rfl⟩
theorem of_nil (x : Int) (w : World) : Calls Try.prog 32 #[.pointer none, .int .i64 x] w fun e w' => e = .returned (.tuple #[.int .i64 0, .bool false]) ∧ w = w' := by
  go_enter Try.func32, Try.ntmps32
  go_wp2_with fail
  go_ret2
  exact ⟨rfl, rfl⟩
theorem used_nil (w : World) : Calls Try.prog 18 #[.pointer none] w fun e w' => e = .returned (.int .i64 0) ∧ w = w' := by
  go_enter Try.func18, Try.ntmps18
  go_wp2_with fail
  go_ret
  exact ⟨rfl, rfl⟩
theorem count_nil (w : World) : Calls Try.prog 28 #[.pointer none] w fun e w' => e = .returned (.int .i64 0) ∧ w = w' := by
  go_enter Try.func28, Try.ntmps28
  go_wp2_with fail
  go_ret
  exact ⟨rfl, rfl⟩
theorem limit_nil (w : World) : Calls Try.prog 39 #[.pointer none] w fun e w' => e = .returned (.int .i64 0) ∧ w = w' := by
  go_enter Try.func39, Try.ntmps39
  go_wp2_with fail
  go_ret
  exact ⟨rfl, rfl⟩
end Go.Proofs.Ytekmgffjdheifaa
