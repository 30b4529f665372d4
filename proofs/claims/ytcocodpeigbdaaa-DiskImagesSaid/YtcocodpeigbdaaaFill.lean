/-
  Fill, the program's and the document's. Conditions: the slice reads as bytes.
-/
import Derived.Test.YtcocodpeigbdaaaB
namespace Go.Proofs.Ytcocodpeigbdaaa
open Go.RowKit
set_option linter.unusedVariables false

/-- what Fill tells -/
def fillIs (l : List UInt8) (n : Int) : Bool := decide (n ≤ 1048576) && decide (l.length ≤ n)
def fillL (l : List UInt8) (n : Int) : List UInt8 := if fillIs l n then l ++ List.replicate (n.toNat - l.length) 0 else []

set_option maxHeartbeats 800000 in
theorem fill_any (a : Option Addr) (n c : Nat) (l : List UInt8) (w : World) (k : Int) (hl : Sl w 1 (.slice a n c) n (bvs l)) :
    Calls Try.prog 40 #[.slice a n c, .int .i64 k] w fun e w' => ∃ v, e = .returned (.tuple #[v, .bool (fillIs l k)]) ∧ Own w' w.heap.size 1 v (fillL l k).length (bvs (fillL l k)) ∧ Below w.heap.size w w' := by
  have HL := Lib.hid hl
  have hn := hl.len
  clear hl
  by_cases h1 : 1048576 < k
  · have HC : Hid (fillIs l k = false) := by show fillIs l k = false; simp [fillIs]; omega
    go_enter Try.func40, Try.ntmps40
    go_wp2
    go_ret2
    rw [fillL, HC.out]
    exact ⟨_, rfl, Own.nil _ _ _, Below.refl _ _⟩
  by_cases h2 : k < (n : Int)
  · have HC : Hid (fillIs l k = false) := by show fillIs l k = false; simp [fillIs]; omega
    go_enter Try.func40, Try.ntmps40
    go_wp2
    go_ret2
    rw [fillL, HC.out]
    exact ⟨_, rfl, Own.nil _ _ _, Below.refl _ _⟩
  obtain ⟨p, rfl⟩ : ∃ p : Nat, k = p := ⟨k.toNat, by omega⟩
  have hp : n ≤ p := by omega
  have HC : Hid (fillIs l p = true) := by show fillIs l p = true; simp [fillIs]; omega
  have hp2 : p ≤ 1048576 := by omega
  have HX : Hid (fillL l p = l ++ List.replicate (p - n) 0) := by
    show fillL l p = _
    rw [fillL, HC.out, hn.1]; rfl
  go_enter Try.func40, Try.ntmps40
  go_wp2_with (first | (at_make; refine wpL_make etB rfl rfl _ _ rfl p w.heap.size rfl rfl rfl rfl (by omega) (by simp [maxLen]; omega) (Nat.le_refl _) ?_; rintro v2 w2 hown hb ⟨g, off, rfl, hg⟩; have HO := Lib.hid hown; have HB := Lib.hid hb; have hgi := hg; have HG := Lib.hid hg; clear hown hb hg hgi) | (refine wpL_copy etB rfl (.tmp 17) (.tmp 18) rfl HO.out 0 rfl (HL.out.below HB.out) rfl (bvs_one _) n (Nat.min_eq_left hp) (fun _ => rfl) (by omega) ?_; intro w3 hown hb; have HO2 := Lib.hid hown; have HB2 := Lib.hid hb; clear hown hb))
  go_ret2
  rw [HC.out, HX.out]
  refine ⟨_, rfl, ?_, below_grown HB.out HB2.out HG.out HB.out.size⟩
  have h := HO2.out
  have e : splice (List.replicate p (Value.int .u8 0)) 0 ((bvs l).take n) = bvs (l ++ List.replicate (p - n) 0) := by
    rw [List.take_of_length_le (by rw [bvs_length]; omega), bvs_append, bvs_replicate, splice]
    simp [hn.1, bvs]
  rw [e] at h
  have e2 : (l ++ List.replicate (p - n) 0).length = p := by simp; omega
  rw [e2]
  exact h
set_option maxHeartbeats 400000 in
theorem rfill_any (a : Option Addr) (n c : Nat) (l : List UInt8) (w : World) (k : Int) (hl : Sl w 1 (.slice a n c) n (bvs l)) :
    Calls Try.prog 16 #[.slice a n c, .int .i64 k] w fun e w' => ∃ v, e = .returned (.tuple #[v, .bool (fillIs l k)]) ∧ Own w' w.heap.size 1 v (fillL l k).length (bvs (fillL l k)) ∧ Below w.heap.size w w' := by
  have hn := hl.len
  have HL := Lib.hid hl
  clear hl
  by_cases h2 : k < (n : Int)
  · have HC : Hid (fillIs l k = false) := by show fillIs l k = false; simp [fillIs]; omega
    go_enter Try.func16, Try.ntmps16
    go_wp2
    go_ret2
    rw [fillL, HC.out]
    exact ⟨_, rfl, Own.nil _ _ _, Below.refl _ _⟩
  by_cases h1 : 1048576 < k
  · have HC : Hid (fillIs l k = false) := by show fillIs l k = false; simp [fillIs]; omega
    go_enter Try.func16, Try.ntmps16
    go_wp2
    go_ret2
    rw [fillL, HC.out]
    exact ⟨_, rfl, Own.nil _ _ _, Below.refl _ _⟩
  obtain ⟨p, rfl⟩ : ∃ p : Nat, k = p := ⟨k.toNat, by omega⟩
  have hp : n ≤ p := by omega
  have HC : Hid (fillIs l p = true) := by show fillIs l p = true; simp [fillIs]; omega
  have hp2 : p ≤ 1048576 := by omega
  have HX : Hid (fillL l p = l ++ List.replicate (p - n) 0) := by
    show fillL l p = _
    rw [fillL, HC.out, hn.1]; rfl
  rw [HX.out, List.length_append, List.length_replicate, hn.1, show n + (p - n) = p by omega, HC.out]
  obtain ⟨T, hT⟩ : ∃ T, T = l ++ List.replicate (p - n) 0 := ⟨_, rfl⟩
  have HT := Lib.hid hT
  rw [← hT]
  clear hT HX HC
  go_enter Try.func16, Try.ntmps16
  go_wp2_with (first | (at_make; refine wpL_make etB rfl rfl _ _ rfl p w.heap.size rfl rfl rfl rfl (by omega) (by simp [maxLen]; omega) (Nat.le_refl _) ?_; rintro v2 w2 hown hb ⟨g, off, rfl, hg⟩; have HO := Lib.hid hown; have HB := Lib.hid hb; have HG := Lib.hid hg; clear hown hb hg))
  obtain ⟨W2, hW2⟩ : ∃ W2 : World, W2 = w2 := ⟨_, rfl⟩
  go_loopw [7] (fun v wr => ∃ i : Nat, i ≤ n ∧ v = .int .i64 i ∧ Own wr w.heap.size 1 (.slice (some ⟨g, off, none⟩) p p) p (bvs (l.take i ++ List.replicate (p - i) 0)) ∧ Below w.heap.size w wr) (fun v _ => n - (intOf v).toNat)
  case atStart =>
    refine ⟨0, Nat.zero_le _, rfl, ?_, HB.out⟩
    have := HO.out
    rw [bvs_replicate] at this
    simpa using this
  case round =>
    obtain ⟨i, hi, rfl, ho, hb⟩ := hrel
    have HOr := Lib.hid ho
    have HBr := Lib.hid hb
    by_cases him : i = n
    · subst him
      have HTn : Hid (l.take i ++ List.replicate (p - i) 0 = T) := by show _ = _; rw [HT.out, ← hn.1, List.take_length]
      clear ho hb
      go_wp2_with fail
      go_ret2
      refine ⟨_, rfl, ?_, HBr.out⟩
      rw [← HTn.out]
      exact HOr.out
    · have hlt : i < n := by omega
      have hlt' : (i : Int) < n := by omega
      have hip' : (i : Int) < p := by omega
      have hlen : (l.take i ++ List.replicate (p - i) (0 : UInt8)).length = p := by simp; omega
      have h1 := ho.get i (by rw [bvs_length, hlen]; omega)
      have h2 := ho.free i (by rw [bvs_length, hlen]; omega)
      rw [bvs_get _ _ (by rw [hlen]; omega)] at h1
      obtain ⟨b', off', rfl, hb1⟩ := (HL.out.below HBr.out).byte hlt
      obtain ⟨z, hz⟩ : ∃ z, z = l.getD i 0 := ⟨_, rfl⟩
      have hst : Hid ((l.take i ++ List.replicate (p - i) 0).set i z = l.take (i + 1) ++ List.replicate (p - (i + 1)) 0) := by
        show _ = _
        rw [List.set_append_right _ _ (by simp; omega), List.length_take, Nat.min_eq_left (by omega), Nat.sub_self, take_snoc l i (by omega), ← hz]
        obtain ⟨k, hk⟩ : ∃ k, p - i = k + 1 := ⟨p - i - 1, by omega⟩
        rw [hk, List.replicate_succ, List.set_cons_zero, show p - (i + 1) = k by omega]
        simp
      rw [← hz] at hb1
      clear ho hb hz hlen
      go_wp2_with fail
      refine ⟨⟨i + 1, by omega, rfl, ?_, HBr.out.setCell (p := ⟨g, off + i, none⟩) HG.out _⟩, by simp [intOf]; omega⟩
      rw [← hst.out, ← bvs_set]
      exact HOr.out.set i _
end Go.Proofs.Ytcocodpeigbdaaa
