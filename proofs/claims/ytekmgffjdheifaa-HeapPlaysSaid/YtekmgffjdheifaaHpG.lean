/-
  A heap's Dirty and Oids: lists that rise. Conditions: the heap reads as one.
-/
import Derived.Test.YtekmgffjdheifaaHpF
import Derived.Test.YtekmgffjdheifaaShelfP
import Derived.Sort.OwnSortedInts
namespace Go.Proofs.Ytekmgffjdheifaa
open Go.RowKit Go.Maps Go.Sort Go.Shelf
set_option linter.unusedVariables false
set_option linter.unusedSimpArgs false
set_option maxRecDepth 100000

/-- the world behind a sort -/
theorem own_sorted {w : World} {base g off n cap k : Nat} {l ss : List Int} {os : Array Obj} (h : Own w base 1 (.slice (some ⟨g, off, none⟩) n cap) n (ints l)) (hl : ss.length = l.length) :
    Own (grow (putRow (Value.int .i64) (Sort.ahead w k) g off ss.toArray) os) base 1 (.slice (some ⟨g, off, none⟩) n cap) n (ints ss) ∧ w.grownBy (grow (putRow (Value.int .i64) (Sort.ahead w k) g off ss.toArray) os) (some g) := by
  have hB : OwnB w base 1 g off n cap (ints l) := by
    rcases h.2 with ⟨hc, _⟩ | ⟨g', off', cap', he, hb⟩
    · cases hc
    · cases he; exact hb
  have hlen := h.1
  rw [ints_length] at hlen
  have hH : Holds (Value.int .i64) w g off l.toArray := fun j hj => by
    have hj' : j < l.length := by simpa using hj
    refine ⟨?_, (hB.there j (by have := hB.nc; omega)).2⟩
    rw [hB.vals j _ (ints_get l j hj')]
    simp [hj', List.getD_eq_getElem?_getD, List.getElem?_eq_getElem hj']
  have hg : g < (putRow (Value.int .i64) (Sort.ahead w k) g off ss.toArray).heap.size := by
    rw [size_putRow]; exact hB.lt
  have hc : ∀ j, (grow (putRow (Value.int .i64) (Sort.ahead w k) g off ss.toArray) os).cell? ⟨g, off + j, none⟩ = (putRow (Value.int .i64) (Sort.ahead w k) g off ss.toArray).cell? ⟨g, off + j, none⟩ := fun j => cell?_grow _ _ _ hg
  have hf : ∀ j, (grow (putRow (Value.int .i64) (Sort.ahead w k) g off ss.toArray) os).frozen? ⟨g, off + j, none⟩ = w.frozen? ⟨g, off + j, none⟩ := fun j => by
    rw [frozen?_grow _ _ _ hg, frozen?_putRow]
    rfl
  have hv : ∀ j, j < ss.length → (putRow (Value.int .i64) (Sort.ahead w k) g off ss.toArray).cell? ⟨g, off + j, none⟩ = some (.int .i64 (ss.getD j 0)) := fun j hj => by
    have := (holds_putRow (Value.int .i64) (Sort.ahead w k) g off l.toArray ss.toArray (holds_ahead _ _ _ _ _ _ hH) (by simpa using hl) j (by simpa using hj)).1
    rw [this]
    simp [hj, List.getD_eq_getElem?_getD, List.getElem?_eq_getElem hj]
  have ho : ∀ j, ¬ j < ss.length → (putRow (Value.int .i64) (Sort.ahead w k) g off ss.toArray).cell? ⟨g, off + j, none⟩ = w.cell? ⟨g, off + j, none⟩ := fun j hj => by
    rw [cell?_putRow_other _ _ _ _ _ _ (.inr (.inr (by simp; omega)))]
    rfl
  refine ⟨⟨by rw [ints_length, hl]; exact hlen, .inr ⟨g, off, cap, rfl, hB.base, ?_, hB.nc, hB.max, fun j hj => ?_, fun j u hu => ?_⟩⟩, ⟨rfl, rfl, rfl, ?_, fun i hi hne => ?_⟩⟩
  · exact Nat.lt_of_lt_of_le hg (by simp [grow])
  · rw [hc, hf]
    refine ⟨?_, (hB.there j hj).2⟩
    by_cases hjs : j < ss.length
    · rw [hv j hjs]; rfl
    · rw [ho j hjs]; exact (hB.there j hj).1
  · have hj : j < ss.length := by
      have := (List.getElem?_eq_some_iff.1 hu).1
      rwa [ints_length] at this
    rw [ints_get ss j hj] at hu
    rw [hc, hv j hj]
    exact hu
  · simp [grow, putRow, mapBlock]
  · rw [heap_grow_old _ _ (by rw [size_putRow]; exact hi)]
    have : g ≠ i := fun e => hne (by rw [e])
    simp [putRow, mapBlock, Sort.ahead, Array.getElem?_modify, this]
def riseL (l : List Int) : List Int := l.mergeSort (fun x y => decide (x ≤ y))
theorem sort_own {w : World} {base n cap : Nat} {a : Option Addr} {l : List Int} (h : Own w base 1 (.slice a n cap) n (ints l)) (hn : n < 4611686018427387904) :
    Calls Try.prog 48 #[.slice a n cap] w fun e w' => e = .returned (.tuple #[]) ∧ Own w' base 1 (.slice a n cap) n (ints (riseL l)) ∧ w.grownBy w' (Value.slice a n cap).ownBlock := by
  have hlen := h.1
  rw [ints_length] at hlen
  have e0 : (Value.slice none 0 0).ownBlock = none := rfl
  cases a with
  | none =>
    have hh : n = 0 ∧ cap = 0 := by
      rcases h.2 with ⟨hc, hz⟩ | ⟨g', off', cap', he, hb⟩
      · cases hc; exact ⟨rfl, rfl⟩
      · cases he
    obtain ⟨rfl, rfl⟩ := hh
    have hl0 : l = [] := List.eq_nil_of_length_eq_zero (by omega)
    subst hl0
    refine (AnyM.slices_Sort_int_none Try.sortA none 0 w).mono ?_
    rintro e w' ⟨rfl, rfl⟩
    exact ⟨rfl, by rw [show riseL [] = [] by simp [riseL]]; exact h, ⟨rfl, rfl, rfl, Nat.le_refl _, fun _ _ _ => rfl⟩⟩
  | some ad =>
    obtain ⟨g, off, hg⟩ : ∃ g off, ad = ⟨g, off, none⟩ := by
      rcases h.2 with ⟨hc, hz⟩ | ⟨g', off', cap', he, hb⟩
      · cases hc
      · cases he; exact ⟨_, _, rfl⟩
    subst hg
    have hB : OwnB w base 1 g off n cap (ints l) := by
      rcases h.2 with ⟨hc, _⟩ | ⟨g', off', cap', he, hb⟩
      · cases hc
      · cases he; exact hb
    have hln : l.length = n := by omega
    have hH : Holds (Value.int .i64) w g off l.toArray := fun j hj => by
      have hj' : j < l.length := by simpa using hj
      refine ⟨?_, (hB.there j (by have := hB.nc; omega)).2⟩
      rw [hB.vals j _ (ints_get l j hj')]
      simp [hj', List.getD_eq_getElem?_getD, List.getElem?_eq_getElem hj']
    have hs := AnyM.slices_Sort_int Try.sortA g off cap l w hH hB.lt (by omega)
    rw [hln] at hs
    refine Calls.mono hs ?_
    rintro e w' ⟨rfl, k, os, rfl⟩
    obtain ⟨h1, h2⟩ := own_sorted (k := k) (ss := riseL l) (os := os) h (List.length_mergeSort _)
    exact ⟨rfl, h1, h2⟩
/-! ### lists that rise -/
theorem rise_eq {l l' : List Int} (h : l.Perm l') (hs : l'.Pairwise (· ≤ ·)) : riseL l = l' := by
  refine List.Perm.eq_of_pairwise (le := (· ≤ ·)) (fun a b _ _ h1 h2 => Int.le_antisymm h1 h2) ?_ hs ((List.mergeSort_perm _ _).trans h)
  have := List.pairwise_mergeSort (le := fun x y : Int => decide (x ≤ y)) (fun a b c h1 h2 => by simp at *; omega) (fun a b => by simp; omega) l
  exact this.imp (fun h => by simpa using h)
theorem dirtyL_nodup (H : List Th) : (dirtyL H).Nodup := map_nodup (List.Pairwise.filter _ List.nodup_range)
theorem range_rise (n : Nat) : (List.range n).Pairwise (· < ·) := List.pairwise_lt_range
theorem dirtyL_rise (H : List Th) : (dirtyL H).Pairwise (· ≤ ·) := by
  unfold dirtyL
  exact List.Pairwise.map _ (fun a b h => Int.ofNat_le.2 (Nat.le_of_lt h)) (List.Pairwise.filter _ (range_rise _))
theorem mem_dirtyL (H : List Th) (k : Int) : k ∈ dirtyL H ↔ (thAt H k).is = true ∧ (thAt H k).dirty = true := by
  unfold dirtyL
  constructor
  · intro h
    obtain ⟨i, hi, rfl⟩ := List.mem_map.1 h
    have := (List.mem_filter.1 hi).2
    show (thAt H (i : Int)).is = true ∧ (thAt H (i : Int)).dirty = true
    rw [thAt_nat]
    simpa using this
  · rintro ⟨h, h2⟩
    obtain ⟨i, rfl, hl, e⟩ := thAt_is h
    rw [e] at h h2
    exact List.mem_map.2 ⟨i, List.mem_filter.2 ⟨List.mem_range.2 hl, by rw [h, h2]; rfl⟩, rfl⟩
theorem dirtyL_len (H : List Th) : (dirtyL H).length ≤ H.length := by
  unfold dirtyL
  rw [List.length_map]
  exact Nat.le_trans (List.length_filter_le _ _) (by simp)
theorem dirty_all {H : List Th} {A : List Int} (hn : A.Nodup) (h : ∀ k, k ∈ A ↔ (thAt H k).is = true ∧ (thAt H k).dirty = true) : riseL A = dirtyL H :=
  rise_eq ((List.perm_ext_iff_of_nodup hn (dirtyL_nodup H)).2 fun k => (h k).trans (mem_dirtyL H k).symm) (dirtyL_rise H)
def oidsL (H : List Th) : List Int := riseL ((H.filter fun h => decide (0 < h.oid)).map (·.oid))
theorem rangeLeft_mods {w w' : World} {b r : Nat} (h1 : w'.heap[b]? = w.heap[b]?) (h2 : w'.heap[r]? = w.heap[r]?) : w'.rangeLeft b r = w.rangeLeft b r := by
  unfold World.rangeLeft
  rw [h1, h2]
theorem RangeIs.lts {α : Type} {E : Elem α} {P : Program} {K : TypeId} {w : World} {b r : Nat} {ks : List Int} {f : Int → α} {l : List Int} (h : RangeIs E P K w b r ks f l) : b < w.heap.size ∧ r < w.heap.size := by
  obtain ⟨D, left, cnt, h1, _⟩ := h
  exact ⟨h1.owns.lt, h1.lt⟩
theorem RangeIs.nodup {α : Type} {E : Elem α} {P : Program} {K : TypeId} {w : World} {b r : Nat} {ks : List Int} {f : Int → α} {l : List Int} (h : RangeIs E P K w b r ks f l) : l.Nodup := by
  obtain ⟨D, left, cnt, _, _, _, _, _, h, _⟩ := h
  exact h
set_option maxHeartbeats 4000000 in
theorem dirty_p {col : Nat → Nat} {w : World} {b m bm bt : Nat} {H : List Th} {ks ts : List Int} {at_ : Int → Option Nat} {tf : Int → Int} (h : HpIn col w b m H bm bt ks at_ ts tf) (hg : Good H m) (hlen9 : H.length ≤ 1000000) (D : List Int) (hD : Hid (D = dirtyL H)) (N : Nat) (hN : Hid (N = D.length)) :
    Calls Try.prog 22 #[.pointer (some ⟨b, 0, none⟩)] w fun e w' => ∃ a c, e = .returned (.slice a N c) ∧ Own w' w.heap.size 1 (.slice a N c) N (ints D) ∧ Below w.heap.size w w' := by
  have HH := Lib.hid h
  have c3 := h.c3
  have hmp := h.mp
  have hrise : Hid (∀ A : List Int, A.Nodup → (∀ k, k ∈ A ↔ (k ∈ ks ∧ k ∉ ([] : List Int)) ∧ (thAt H k).dirty = true) → riseL A = D) := Lib.hid (fun A hA hk => by
    rw [hD.out]
    exact dirty_all hA (fun k => (hk k).trans (by simp [h.keys k])))
  have hfew : ks.length ≤ 1000000 := by rw [h.count]; exact Nat.le_trans List.countP_le_length hlen9
  have HFEW : Hid (∀ A : List Int, A.Nodup → (∀ k, k ∈ A → k ∈ ks) → A.length ≤ 1000000) := Lib.hid (fun A hA hk => by
    have h1 := nodup_few 1000000 A hA (fun k hkA => by
      have h2 := (h.keys k).1 (hk k hkA)
      obtain ⟨i, rfl, hi, _⟩ := thAt_is h2
      have := hg.pos h2
      omega)
    exact h1)
  clear h
  obtain ⟨r, hr⟩ : ∃ r, r = w.heap.size := ⟨_, rfl⟩
  go_enter Try.func22, Try.ntmps22
  go_wp2_with (at_range; refine wpL_range hmp keyInt mapTh rfl _ rfl rfl ?_; intro w0 hrg0 hg0 hs0; rw [← hr] at hrg0 hs0 ⊢; have HRG := Lib.hid hrg0; have HG0 := Lib.hid hg0; have HS0 := Lib.hid hs0; clear hrg0 hg0 hs0 hmp c3)
  go_frame
  have hB0 : Below w.heap.size w w0 := ⟨HG0.out.os, HG0.out.tape, HG0.out.output, HG0.out.size, fun j hj => HG0.out.block j hj (by simp)⟩
  have hrw : w.heap.size ≤ r := by rw [hr]; exact Nat.le_refl _
  have HR1 : Hid (r + 1 ≤ w0.heap.size ∧ bm < r) := Lib.hid (by rw [HS0.out]; exact ⟨Nat.le_refl _, by rw [hr]; exact HH.out.mp.lt⟩)
  clear hr HS0
  go_loopw [2] (fun v2 wr => ∃ (l A : List Int) (a : Option Addr) (n c : Nat), v2 = .slice a n c ∧ n ≤ 1000000 ∧ Hid (RangeIs ptrE Try.prog 3 wr bm r ks at_ l) ∧ Below w.heap.size w wr ∧ Hid (Own wr (r + 1) 1 (.slice a n c) n (ints A)) ∧ Hid (A.Nodup ∧ ∀ k, k ∈ A ↔ (k ∈ ks ∧ k ∉ l) ∧ (thAt H k).dirty = true) ∧ r + 1 ≤ wr.heap.size) (fun _ wr => wr.rangeLeft bm r)
  case atStart => exact ⟨ks, [], none, 0, 0, rfl, Nat.zero_le _, HRG, hB0, Lib.hid (Own.nil _ _ _), Lib.hid ⟨List.nodup_nil, fun k => by simp⟩, HR1.out.1⟩
  case round =>
    obtain ⟨l, A, a, n, c, rfl, hn9, HRG, hb, HO, HA, hrs⟩ := hrel
    have hrg := HRG.out
    go_wp2_with (at_next; refine wpL_next hrg keyInt rfl _ rfl rfl ?_ ?_)
    · intro hl
      subst hl
      clear hrg
      have e := hrise.out A HA.out.1 HA.out.2
      have hAN : A.length = n := by have := HO.out.1; rw [ints_length] at this; omega
      have hDN : N = n := by rw [hN.out, ← e, riseL, List.length_mergeSort]; exact hAN
      subst hDN
      have HE := Lib.hid e
      clear e hAN
      go_wp2_with fail
      refine (sort_own HO.out (by omega)).mono ?_
      rintro e w2 ⟨rfl, ho2, hg2⟩
      rw [HE.out] at ho2
      have hB2 := hb.grown hg2 hb.size (fun k e => by have := HO.out.lt k e; omega)
      go_wp2_with fail
      go_ret
      exact ⟨a, c, rfl, ho2.mono (by omega), hB2⟩
    · intro x w2 hxl hxk hwx hrg2 hlt2 hg2 hs2 hen
      have hrl := hrg.lts
      have hb2 : Below w.heap.size w w2 := ⟨hg2.os.trans hb.os, hg2.tape.trans hb.tape, hg2.output.trans hb.output, Nat.le_trans hb.size hg2.size, fun j hj => (hg2.block j (Nat.lt_of_lt_of_le hj hb.size) (by simp; omega)).trans (hb.block j hj)⟩
      have hnd := hrg.nodup
      have HC := Lib.hid (HH.out.fresh hb2)
      have HO2 := Lib.hid (HO.out.kept hg2 (own_ne HO.out (Nat.lt_succ_self r)))
      have hs2' : r + 1 ≤ w2.heap.size := by omega
      obtain ⟨g, v, hat, hth⟩ := HC.out.has ((HC.out.keys x).1 hxk)
      have d5 := hth.cell 5
      simp only [thRow, List.getElem?_cons_zero, List.getElem?_cons_succ] at d5
      rw [show ptrE.val (at_ x) = .pointer (some ⟨g, 0, none⟩) from ptrV_some' hat] at hen ⊢
      have HRG2 := Lib.hid hrg2
      have HM := Lib.hid hlt2
      have HND := Lib.hid hnd
      have HXL := Lib.hid (And.intro hxl hxk)
      clear hs2 hg2 hrg hrg2 hlt2 hnd hth hat hxl hxk hrl
      cases hd : (thAt H x).dirty with
      | false =>
        rw [hd] at d5
        have HD0 := Lib.hid hd
        clear hd
        go_wp2_with fail
        exact ⟨⟨l.erase x, A, a, n, c, rfl, hn9, HRG2, hb2, HO2, Lib.hid ⟨HA.out.1, fun k => by
          rw [HA.out.2 k, List.Nodup.mem_erase_iff HND.out]
          constructor
          · rintro ⟨⟨h1, h2⟩, h3⟩
            exact ⟨⟨h1, fun h => h2 h.2⟩, h3⟩
          · rintro ⟨⟨h1, h2⟩, h3⟩
            refine ⟨⟨h1, fun h => h2 ⟨fun e => ?_, h⟩⟩, h3⟩
            rw [e, HD0.out] at h3
            cases h3⟩, hs2'⟩, HM.out⟩
      | true =>
        rw [hd] at d5
        have HD0 := Lib.hid hd
        clear hd
        have HA2 : Hid ((A ++ [x]).Nodup ∧ ∀ k, k ∈ A ++ [x] ↔ (k ∈ ks ∧ k ∉ l.erase x) ∧ (thAt H k).dirty = true) := Lib.hid (by
          have hxA : x ∉ A := fun hm => ((HA.out.2 x).1 hm).1.2 HXL.out.1
          refine ⟨List.nodup_append.2 ⟨HA.out.1, by simp, fun p hp q hq => by rw [List.mem_singleton.1 hq]; rintro rfl; exact hxA hp⟩, fun k => ?_⟩
          rw [List.mem_append, List.mem_singleton, HA.out.2 k, List.Nodup.mem_erase_iff HND.out]
          constructor
          · rintro (⟨⟨h1, h2⟩, h3⟩ | rfl)
            · exact ⟨⟨h1, fun h => h2 h.2⟩, h3⟩
            · exact ⟨⟨HXL.out.2, fun h => h.1 rfl⟩, HD0.out⟩
          · rintro ⟨⟨h1, h2⟩, h3⟩
            by_cases e : k = x
            · exact .inr e
            · exact .inl ⟨⟨h1, fun h => h2 ⟨e, h⟩⟩, h3⟩)
        have hlenA : n + 1 ≤ 1000000 := by
          have h1 := HFEW.out (A ++ [x]) HA2.out.1 (fun k hk => ((HA2.out.2 k).1 hk).1.1)
          have h2 := HO.out.1
          rw [ints_length] at h2
          simp at h1
          omega
        have ho8 := HO2.out.alloc (.cells #[.int .i64 x] 3)
        have hs8 : Sl (w2.alloc (.cells #[.int .i64 x] 3)) 1 (.slice (some ⟨w2.heap.size, 0, none⟩) 1 1) 1 [.int .i64 x] := Sl.one w2 _ _
        have hb8 : Below w.heap.size w (w2.alloc (.cells #[.int .i64 x] 3)) := hb2.alloc hb2.size _
        go_wp2_with (at_builtin; refine wpL_append etI rfl _ _ rfl ho8 rfl hs8 rfl (by simp [Value.oneCell']) (by omega) (by simp [maxLen]; omega) (by simp; omega) ?_; intro v9 w9 ho9 hg9; obtain ⟨a9, c9, rfl⟩ := ho9.form)
        have hb9 := hb8.grown hg9 hb8.size (fun k e => by have := ho8.lt k e; omega)
        have hrl := HRG2.out.lts
        have hal : ∀ i, i < w2.heap.size → (w2.alloc (.cells #[.int .i64 x] 3)).heap[i]? = w2.heap[i]? := fun i hi => Below.heap_alloc _ _ i hi
        have hne : ∀ i, i ≤ r → (Value.slice a n c).ownBlock ≠ some i := fun i hi e => by have := ho8.lt i e; omega
        have hblk : ∀ i, i ≤ r → w9.heap[i]? = w2.heap[i]? := fun i hi => (hg9.block i (by simp; omega) (fun e => hne i hi e.symm)).trans (hal i (by omega))
        have hbmr := HR1.out.2
        refine ⟨⟨l.erase x, A ++ [x], a9, n + 1, c9, rfl, by omega, Lib.hid (HRG2.out.mods (Q := fun i => r < i) ⟨hg9.os, hg9.tape, hg9.output, Nat.le_trans (by simp) hg9.size, fun i hi hn => hblk i (by omega)⟩ (by omega) (by omega)), hb9, Lib.hid ?_, HA2, by have := hg9.size; simp at this; omega⟩, ?_⟩
        · rw [show ints (A ++ [x]) = ints A ++ [.int .i64 x] by simp [ints]]
          exact ho9
        · rw [rangeLeft_mods (hblk bm (by omega)) (hblk r (Nat.le_refl _))]
          exact HM.out
/-! ### Oids -/
theorem oids_perm {H : List Th} {m : Nat} (hg : Good H m) {ts : List Int} (hn : ts.Nodup) (hk : ∀ x, x ∈ ts ↔ 0 < ofH H x) : ts.Perm ((H.filter fun h => decide (0 < h.oid)).map (·.oid)) := by
  have hnd : ((H.filter fun h => decide (0 < h.oid)).map (·.oid)).Nodup := by
    rw [List.Nodup, List.pairwise_map, List.pairwise_filter]
    refine List.pairwise_iff_getElem.2 fun i j hi hj hij h1 h2 e => ?_
    have := hg.one i j (by rw [thAt_nat, getD_lt hi]; exact of_decide_eq_true h1) (by rw [thAt_nat, thAt_nat, getD_lt hi, getD_lt hj]; exact e)
    omega
  refine (List.perm_ext_iff_of_nodup hn hnd).2 fun x => ?_
  rw [hk x]
  constructor
  · intro h
    obtain ⟨h1, h2⟩ := hg.ofPos h
    obtain ⟨i, hi, hl, e⟩ := thAt_is (hg.isOf (by rw [h2]; exact h1))
    rw [e] at h2
    rw [getD_lt hl] at h2
    exact List.mem_map.2 ⟨H[i], List.mem_filter.2 ⟨List.getElem_mem hl, by rw [h2]; exact decide_eq_true h1⟩, h2⟩
  · intro h
    obtain ⟨y, hy, rfl⟩ := List.mem_map.1 h
    obtain ⟨hm, hp⟩ := List.mem_filter.1 hy
    obtain ⟨i, hi, rfl⟩ := List.mem_iff_getElem.1 hm
    have hp' : 0 < H[i].oid := of_decide_eq_true hp
    have := hg.ofEq (x := H[i].oid) (k := i) hp' (by rw [thAt_nat, getD_lt hi])
    omega
theorem sortsA (m : Nat) : AnyZI.SortsIn Try.prog Try.sortedA_ren Fence.wide m :=
  ⟨fun blk off cap ss W hH hblk hsz => callsIn_wide.2 (AnyM.slices_Sort_int Try.sortA blk off cap ss W hH hblk hsz),
   fun p cap W => callsIn_wide.2 (AnyM.slices_Sort_int_none Try.sortA p cap W)⟩
set_option maxHeartbeats 2000000 in
theorem oids_p {col : Nat → Nat} {w : World} {b m bm bt : Nat} {H : List Th} {ks ts : List Int} {at_ : Int → Option Nat} {tf : Int → Int} (h : HpIn col w b m H bm bt ks at_ ts tf) (hg : Good H m) :
    Calls Try.prog 33 #[.pointer (some ⟨b, 0, none⟩)] w fun e w' => ∃ v, e = .returned v ∧ Own w' w.heap.size 1 v (oidsL H).length (ints (oidsL H)) ∧ Below w.heap.size w w' := by
  refine (callsIn_wide (n := 6)).1 ?_
  have c4 := h.c4
  have hfew := h.few hg
  have hperm := oids_perm hg h.tm.nodup h.tk
  obtain ⟨D, hown, hsz, hp⟩ := h.tm.perm keyInt
  have hbl := hown.lt
  have hmax : Maps.size D ≤ maxLen := by rw [hsz]; simp [maxLen]; omega
  have hbytes : Maps.size D * 8 ≤ 140737488355328 := by rw [hsz]; omega
  have hseq : SeqGives Fence.wide 2 Try.prog 77 #[.pointer (some ⟨w.heap.size, 0, none⟩)] encZ (fun ss => ss.Perm (intKeys D)) (Maps.size D) (w.alloc (.cells #[.map (some bt)] 78)) :=
    AnyZI.keys_gives (ρ := Try.keysA_ren) { Try.keysA with } Fence.wide _ trivial rfl (by omega) w.heap.size bt _ D _ (by simp) (by simp) (by
      obtain ⟨es, clock, hb, Ft, hs, hD⟩ := hown
      exact ⟨es, clock, (Below.heap_alloc _ _ bt hbl).trans hb, Ft, hs, hD⟩)
  have cK : ∀ mb W, CallsIn Fence.wide 5 Try.prog 55 #[.map mb] W fun e w' => e = .returned (.func (.func 77) #[] #[.pointer (some ⟨W.heap.size, 0, none⟩)]) ∧ w' = W.alloc (.cells #[.map mb] 78) := fun mb W => AnyZI.keys_in Try.keysA Fence.wide 5 trivial rfl mb W
  have cS := AnyZI.sorted_in Try.sortedA Fence.wide 5 trivial trivial trivial trivial rfl (by omega) (sortsA _) (enters_of Try.func48 (by kernel_rfl) rfl) 77 #[.pointer (some ⟨w.heap.size, 0, none⟩)] trivial (enters_of Try.func77 (by kernel_rfl) rfl) _ _ hmax hbytes _ hseq
  change CallsIn _ _ Try.prog 54 _ _ _ at cS
  have hfK : Fence.wide.fn 55 := trivial
  have hfS : Fence.wide.fn 54 := trivial
  refine callsIn_of_wp Try.func33 rfl trivial ?_ rfl
  simp only [Try.ntmps33, List.size_toArray, List.length_cons, List.length_nil, Nat.reduceAdd, Nat.reduceSub, Array.replicate_succ, Array.replicate_zero, List.push_toArray, List.append_toArray, List.nil_append, List.cons_append]
  gi_wp2_with (first
    | (gi_at_call 55; refine (cK _ _).mono ?_; rintro e w' ⟨rfl, rfl⟩)
    | (gi_at_call 54; refine cS.mono ?_; rintro e w' ⟨v, ss, rfl, hS, hrow, hnil, hb⟩))
  go_ret
  have e : ss.mergeSort (fun x y => decide (x ≤ y)) = oidsL H := by
    have h1 : ss.Perm ((H.filter fun h => decide (0 < h.oid)).map (·.oid)) := (hS.trans hp.symm).trans hperm
    have hs := List.pairwise_mergeSort (le := fun x y : Int => decide (x ≤ y)) (fun a b c h1 h2 => by simp at *; omega) (fun a b => by simp; omega) ((H.filter fun h => decide (0 < h.oid)).map (·.oid))
    exact rise_eq (h1.trans (List.mergeSort_perm _ _).symm) (hs.imp (fun h => by simpa using h))
  refine ⟨v, rfl, ?_, ((Below.refl _ w).alloc (Nat.le_refl _) _).trans (hb.mono (by simp))⟩
  have := Own.ofRow (ownsRow_base_a hrow (show w.heap.size ≤ _ by simp))
  have hl : (oidsL H).length = ss.length := by rw [← e, List.length_mergeSort]
  rw [e] at this
  rw [hl]
  exact this
theorem dirty_nil (w : World) : Calls Try.prog 22 #[.pointer none] w fun e w' => e = .returned (.slice none 0 0) ∧ w = w' := by
  go_enter Try.func22, Try.ntmps22
  go_wp2_with fail
  go_ret
  exact ⟨rfl, rfl⟩
theorem oids_nil (w : World) : Calls Try.prog 33 #[.pointer none] w fun e w' => e = .returned (.slice none 0 0) ∧ w = w' := by
  go_enter Try.func33, Try.ntmps33
  go_wp2_with fail
  go_ret
  exact ⟨rfl, rfl⟩
end Go.Proofs.Ytekmgffjdheifaa
