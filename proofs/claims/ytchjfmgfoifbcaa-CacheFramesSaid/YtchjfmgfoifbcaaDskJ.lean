/-
  New, the program's and the document's. No condition.
-/
import Derived.Test.YtchjfmgfoifbcaaDskI
namespace Go.Proofs.Ytchjfmgfoifbcaa
open Go.RowKit
set_option linter.unusedVariables false
set_option linter.unusedSimpArgs false
set_option maxRecDepth 100000

def newIs (n : Int) : Bool := decide (16 ≤ n) && decide (n ≤ 4096)
theorem new_no (n : Int) (w : World) (H : Hid (newIs n = false)) :
    Calls Try.prog 10 #[.int .i64 n] w fun e w' => e = .returned (.tuple #[.pointer none, .int .i64 1]) ∧ w = w' := by
  go_enter Try.func10, Try.ntmps10
  go_wp2_with fail
  refine (right_any n w false (Lib.hid H.out.symm)).mono ?_
  rintro e w1 ⟨rfl, rfl⟩
  go_wp2_with fail
  go_ret2
  exact ⟨rfl, rfl⟩
set_option maxHeartbeats 1000000 in
theorem new_yes (n : Int) (c : Nat) (hc : c ≠ 0) (col : Nat → Nat) (w : World) (H : Hid (newIs n = true)) :
    Calls Try.prog 10 #[.int .i64 n] w fun e w' => ∃ b, e = .returned (.tuple #[.pointer (some ⟨b, 0, none⟩), .int .i64 0]) ∧ w.heap.size ≤ b ∧ MadeNew 62 c col w b (newD n.toNat) w' := by
  obtain ⟨k, rfl⟩ : ∃ k : Nat, n = k := ⟨n.toNat, by have := H.out; simp [newIs] at this; omega⟩
  rw [Int.toNat_natCast]
  have hk : k ≤ 4096 := by have := H.out; simp [newIs] at this; omega
  go_enter Try.func10, Try.ntmps10
  go_wp2_with fail
  refine (right_any k w true (Lib.hid H.out.symm)).mono ?_
  rintro e w1 ⟨rfl, rfl⟩
  go_wp2_with fail
  go_loopw [11] (fun v11 wr => ∃ i us a c', i ≤ k ∧ v11 = .int .i64 (i : Nat) ∧ Hid (Row wr w.heap.size 62 [.slice a i c', .slice none 0 0, .bool false, .int .i64 0, .int .i64 0]) ∧ Hid (Imgs wr (w.heap.size + 1) (.slice a i c') i us (List.replicate i (List.replicate 256 0))) ∧ Below w.heap.size w wr) (fun v11 _ => k - (intOf v11).toNat)
  case atStart => exact ⟨0, [], none, 0, Nat.zero_le _, rfl, Lib.hid (Row.new _ _ _), Lib.hid ⟨Own.nil _ _ _, .nil, fun u hu => by cases hu⟩, (Below.refl _ _).alloc (Nat.le_refl _) _⟩
  case round =>
    obtain ⟨i, us, a, c', hi, rfl, HR, HI, hb⟩ := hrel
    by_cases hik : i = k
    · subst hik
      go_wp2_with fail
      go_ret2
      refine ⟨w.heap.size, rfl, Nat.le_refl _, ?_⟩
      have hI := HI.out
      exact madeNew hb hc List.length_replicate.symm HR.out (Nat.le_refl _) (hI.mono (Nat.le_succ _)) (fun e => by have := hI.own.lt _ e; omega) (fun u hu e => by have := (hI.ins.lives u hu _ e).1; omega)
    · have hlt : i < k := by omega
      have hlt' : (i : Int) < k := by omega
      have e0 : wr.cell? ⟨w.heap.size, 0, none⟩ = some (.slice a i c') := HR.out.cell 0
      have hOw : w.heap.size + 1 ≤ wr.heap.size := Nat.succ_le_of_lt HR.out.lt
      have q0 := laterL_cell (B := w.heap.size + 1) e0 (by omega)
      go_wp2_with fail
      refine wp_region_idx (RbL (w.heap.size + 1)) (RbL_refl _) (RbL_trans _) [(0,0),(0,1),(0,2),(0,3),(0,4),(1,5),(1,6),(1,7),(0,8),(0,9),(2,10)] (by kernel_rfl) (by kernel_rfl) (by kernel_rfl) ?_
      simp only [pickO, List.getD_cons_succ, List.getD_cons_zero]
      refine wpCan_seg 5 (by kernel_rfl) ?_
      simp only [List.take_succ_cons, List.take_zero, List.drop_succ_cons, List.drop_zero, List.map_cons, List.map_nil]
      iterate 5 (go_big_quiet_step (fail))
      refine wpQuiet_nil ?_
      clear q0
      refine wpCan_list (k := 0) (fun KK hK => ?_) (fun _ => RbL_refl _ _)
      go_wp2_with fail
      refine (blank_any _).mono ?_
      rintro e w2 ⟨gu, ou, rfl, hou, hbu0⟩
      go_wp2_with fail
      refine hK _ _ (fun _ => hbu0.mono hOw) ?_
      clear hK KK
      have hbu : Below wr.heap.size wr w2 := (Below.refl _ _).drew.trans hbu0
      clear hbu0
      obtain ⟨Z, hZ⟩ : ∃ Z : List UInt8, Z = List.replicate 256 0 := ⟨_, rfl⟩
      rw [← hZ] at hou
      have hlenZ : Z.length = 256 := by rw [hZ]; exact List.length_replicate
      have HZ := Lib.hid hZ
      have HLZ := Lib.hid hlenZ
      have hb5 : Below w2.heap.size w2 (w2.alloc (.cells #[.slice (some ⟨gu, ou, none⟩) 256 256] 34)) := (Below.refl _ _).alloc (Nat.le_refl _) _
      have hbA : Below wr.heap.size wr (w2.alloc (.cells #[.slice (some ⟨gu, ou, none⟩) 256 256] 34)) := hbu.trans (hb5.mono hbu.size)
      have HI5 := Lib.hid (HI.out.below hbA)
      have HU5 := Lib.hid (hou.below hb5)
      have HS5 := Lib.hid (Sl.one w2 (.slice (some ⟨gu, ou, none⟩) 256 256) 34)
      have hbb := hb.trans (hbA.mono hb.size)
      have hR5 := HR.out.after hbA
      have hsep : ∀ g, (Value.slice (some ⟨gu, ou, none⟩) 256 256).ownBlock = some g → (Value.slice a i c').ownBlock ≠ some g := fun q hq e => by
        have h1 : wr.heap.size ≤ q := hou.lt q hq
        have h2 := HI.out.own.lives q e
        omega
      have HSEP := Lib.hid hsep
      have HBU := Lib.hid (hou.mono (show w.heap.size + 1 ≤ wr.heap.size from Nat.succ_le_of_lt HR.out.lt))
      have HR5 := Lib.hid hR5
      have hrow : ∀ w6, (w2.alloc (.cells #[.slice (some ⟨gu, ou, none⟩) 256 256] 34)).grownBy w6 (Value.slice a i c').ownBlock → Row w6 w.heap.size 62 [.slice a i c', .slice none 0 0, .bool false, .int .i64 0, .int .i64 0] := fun w6 hg => HR5.out.grown hg (fun e => by
        have := HI5.out.own.lt _ e.symm
        omega)
      have HROW := Lib.hid hrow
      have HB5 := Lib.hid hb5
      have hOw2 : w.heap.size + 1 ≤ w2.heap.size := Nat.le_trans hOw hbu.size
      clear hZ hlenZ hou hb5 hsep hR5 hrow
      refine wpCan_list (k := 0) (fun KK hK => ?_) (fun _ => RbL_refl _ _)
      go_wp2_with fail
      refine hK _ _ (fun _ => HB5.out.mono hOw2) ?_
      clear hK KK
      refine wpCan_list (k := 0) (fun KK hK => ?_) (fun _ => RbL_refl _ _)
      go_wp2_with (at_builtin; refine wpL_appendY etBB rfl _ _ rfl HI5.out.own rfl HS5.out rfl (by simp [Value.oneCell']) (by omega) (by simp [maxLen]; omega) (Nat.le_trans (Nat.succ_le_of_lt HR.out.lt) hbA.size) ?_; intro v6 w6 ho6 hg6 hor6; obtain ⟨a6, c6, rfl⟩ := ho6.form; have HO6 := Lib.hid ho6; have HG6 := Lib.hid hg6; have HR6 := Lib.hid hor6; clear ho6 hg6 hor6)
      have hb56 := below_own (Below.refl (w.heap.size + 1) _) HI5.out.own HG6.out (Nat.le_refl _) (Nat.le_trans hOw hbA.size)
      refine hK _ _ (fun _ => hb56) ?_
      clear hK KK hb56
      have hrw6 := HROW.out w6 HG6.out
      refine wpCan_seg 2 (by kernel_rfl) ?_
      simp only [List.take_succ_cons, List.take_zero, List.drop_succ_cons, List.drop_zero, List.map_cons, List.map_nil]
      iterate 2 (go_big_quiet_step (fail))
      refine wpQuiet_nil ?_
      refine wpCan_list (k := 1) (fun KK hK => ?_) (fun h => by cases h)
      refine wpL_storeAt rfl _ _ _ rfl rfl rfl rfl rfl (by kernel_rfl) hrw6 rfl ?_
      intro w7 hg7 hr7
      refine hK _ _ (fun h => by cases h) ?_
      clear hK KK
      unfold wpCan
      go_wp2_with fail
      have hb6 : Below w.heap.size w w6 := below_own hbb HI5.out.own HG6.out (by omega) hbb.size
      refine ⟨⟨i + 1, us ++ [.slice (some ⟨gu, ou, none⟩) 256 256], a6, c6, hlt, by go_num, Lib.hid hr7, Lib.hid ?_, below_grown hb6 hg7 (Nat.le_refl _) hb6.size⟩, by simp [intOf]; omega⟩
      rw [List.replicate_succ', ← HZ.out]
      have hI6 := HI5.out.push (l := Z) (by rw [HLZ.out]; exact HU5.out.mono (Nat.succ_le_of_lt HR.out.lt)) HSEP.out HO6.out HG6.out HR6.out
      rw [← HZ.out] at hI6
      exact ⟨hI6.own.kept hg7 (by
        cases hq : (Value.slice a6 (i + 1) c6).ownBlock with
        | none => exact .inl rfl
        | some g => exact .inr (fun e => by have := hI6.own.lt g hq; cases e; omega)), hI6.ins.kept hg7 (fun u hu g hg e => by have := (hI6.ins.lives u hu g hg).1; cases e; omega), hI6.sep⟩
end Go.Proofs.Ytchjfmgfoifbcaa
