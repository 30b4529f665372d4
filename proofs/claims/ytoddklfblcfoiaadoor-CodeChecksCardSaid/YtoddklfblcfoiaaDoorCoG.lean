/-
  The deferred closure of Read, walked in its two modes. No condition.
-/
import Derived.Test.YtoddklfblcfoiaaDoorCoF
import Derived.Defers
import Derived.Recover
namespace Go.Proofs.YtoddklfblcfoiaaDoor
open Go Go.RowKit
set_option linter.unusedVariables false
set_option linter.unusedSimpArgs false
set_option maxRecDepth 100000

def nilV : Value := .slice none 0 0
theorem read_idle (p q : Addr) (w : World) :
    CallsD Tryd.prog 31 #[.pointer (some p), .pointer (some q)] .returning w fun e u' w' => e = .returned (.tuple #[]) ∧ u' = .returning ∧ w' = w := by
  refine callsD_of_wpS Tryd.func31 rfl fun c₀ cs hu => ?_
  apply wpS_seq
  apply wpS_region
  simp [wpOpsS, go_sem, recoverD, hu, Tryd.ntmps31, Exit.thenS]
  apply wpS_seq
  apply wpS_region
  simp [wpOpsS, go_sem, Exit.thenS]
  refine wpS_cond (t := false) (by simp [Act.eval, Array.replicate]) ?_
  simp only [Bool.false_eq_true, if_false]
  refine wpS_of_wp (wp_skip ?_)
  cases c₀
  simp_all [bodyPostS, results, Tryd.results31]
set_option maxHeartbeats 1600000 in
theorem read_catch (g h : Nat) (older : List PanicEntry) (w : World) (cs0 : List Value) (x : Int) (hc : Row w g 25 cs0) (he : Row w h 31 [.int .i64 x]) (hl : cs0.length = 2) (hne : g ≠ h) :
    CallsD Tryd.prog 31 #[.pointer (some ⟨g, 0, none⟩), .pointer (some ⟨h, 0, none⟩)] (.panicking ({ v := .iface 66 (.agg #[]), recovered := false } :: older)) w fun e u' w' =>
      e = .returned (.tuple #[]) ∧ u' = .panicking ({ v := .iface 66 (.agg #[]), recovered := true } :: older) ∧ Row w' g 25 [nilV, nilV] ∧ Row w' h 31 [.int .i64 8] ∧ Mods (fun b => b = g ∨ b = h) w w' := by
  refine callsD_of_wpS Tryd.func31 rfl fun c₀ cs hu => ?_
  apply wpS_seq
  apply wpS_region
  simp [wpOpsS, go_sem, recoverD, hu, Tryd.ntmps31, Exit.thenS]
  apply wpS_seq
  apply wpS_region
  simp [wpOpsS, go_sem, Exit.thenS]
  refine wpS_cond (t := true) (by simp [Act.eval, Array.replicate]) ?_
  simp only [if_true]
  refine wpS_of_wp ?_
  have HC := Lib.hid hc
  have HE := Lib.hid he
  clear hc he
  have hta : ∀ w : World, (Instr.typeAssert (.iface 66 (.agg #[])) 20 66 true).run Tryd.prog w = .ok (.tuple #[.agg #[], .bool true]) w := fun w => by kernel_rfl
  change Code.wp Tryd.prog _ _ { tmps := #[.pointer (some ⟨g, 0, none⟩), .pointer (some ⟨h, 0, none⟩), .iface 66 (.agg #[]), undef, undef, .iface 66 (.agg #[]), .iface 66 (.agg #[]), .bool true, undef, undef, undef, undef, undef, undef, undef, undef, undef], defers := [] } w
  go_upto_region 3 with fail
  obtain ⟨w1, hw1⟩ : ∃ y, y = w.alloc (.cells #[] 66) := ⟨_, rfl⟩
  have hb1 : Below w.heap.size w w1 := by rw [hw1]; exact (Below.refl _ _).alloc (Nat.le_refl _) _
  have hc1 := HC.out.after hb1
  have he1 := HE.out.after hb1
  rw [← hw1]
  clear hw1
  go_upto_region 5 with fail
  go_wp2_with (refine wpL_storeRow rfl _ _ _ rfl (cs := [nilV, nilV]) rfl rfl hc1 (by kernel_rfl) hl rfl ?_; intro w3 hg3 hr3; have hr4 := he1.grown hg3 (fun e => hne (Option.some.inj e).symm); have c4 := hr4.cell 0; have f4 := hr4.free 0; simp only [List.getElem?_cons_zero] at c4)
  cases c₀
  simp only at hu
  subst hu
  refine ⟨rfl, _, rfl, .tuple #[], by simp [results, Tryd.results31], rfl, rfl, ?_, ?_, ?_⟩
  · exact hr3.other hne _
  · exact hr4.set 0 _
  · exact ((Mods.fresh hb1 _).trans ((Mods.grown hg3).mono (fun b e => .inl (Option.some.inj e).symm))).trans ((Mods.set _ _ _ _).mono (fun b e => .inr e))
end Go.Proofs.YtoddklfblcfoiaaDoor
