/-
  Proved: DiskImages: a disk of any image, what is done with it, its image, and a copy that goes its own way (DiskImagesSaid). Conditions: none.
-/
import Derived.Test.YtcocodpeigbdaaaRows
import Derived.Test.YtcocodpeigbdaaaDskL7
import Derived.WalkKit
import Derived.ProofKit
import Derived.OpenShut
import Derived.ShutString
import Derived.ChangeOld
import Derived.Below
import Derived.SizedLaws
namespace Go.Proofs.Ytcocodpeigbdaaa.diskImages
open Go.ChangeShapes Go.WideShapes Go.ChangeAt Go.RowKit
open Go.ChangeMaps (open_string shut_string)
set_option linter.unusedVariables false

theorem laidOut : laidOutB Try.prog = true := by kernel_rfl
theorem own : ownKnob Try.prog.godebug = none := by kernel_rfl

set_option maxRecDepth 100000 in
theorem lifted (os : Os) (started : os.Started) (H : Type) (enc : TypeId × Value → H) :
    ReturnsInHanded {} Try.checked os 9 .any (Rows.diskImagesSpec.pre6 enc Try.prog Try.f9 Rows.diskImagesRow.domain false) (Rows.diskImagesSpec.post enc Try.prog Try.f9 false true false false) := by
  refine returnsInHanded_of_change_sized (C := Try.checked) own started (by kernel_rfl) Try.func9
    (ChangeSpec.witness6 (enc := enc) (C := Try.checked) false ⟨#[], #[.slice none 0 0, .slice none 0 0, .slice none 0 0], []⟩ 8 (by kernel_rfl) (by kernel_rfl) (by kernel_rfl) (by kernel_rfl)) ?_
  intro W base args ds gs before hval0 hW hcnd hsz _
  have hval : ∀ (j : Nat) t v, Try.f9.params[j]? = some t → args[j]? = some v → Value.okWide Try.prog W .any base t v := hval0
  have hW' := hW
  obtain ⟨p, q, hA0, hV, rfl, hfz, hnd⟩ := hW
  have hA : DataW.TrodAll enc Try.prog W 0 (fun _ => true) true Try.f9.params.toList args.toList ds p := hA0
  rw [Try.params9] at hA hval
  obtain ⟨v0, vs0, d0, ds0, p0, q0, hargs, rfl, rfl, h0, r0⟩ := trodAll_cons hA
  obtain ⟨v1, vs1, d1, ds1, p1, q1, rfl, rfl, rfl, h1, r1⟩ := trodAll_cons r0
  obtain ⟨v2, vs2, d2, ds2, p2, q2, rfl, rfl, rfl, h2, r2⟩ := trodAll_cons r1
  obtain ⟨rfl, rfl, rfl⟩ := trodAll_nil r2
  obtain rfl : args = #[v0, v1, v2] := by cases args; simp_all
  obtain ⟨rfl, rfl⟩ := trodVars_none hV
  obtain ⟨a0, n0, c0, rfl⟩ := okWide_slice Try.underlying47 (hval 0 47 v0 rfl rfl)
  have k0 := h0
  have lt0 : ∀ x ∈ p0, x.block < W.heap.size := by obtain ⟨m, hm⟩ := k0; exact DataW.trod_lt m _ _ _ hm
  obtain ⟨l0, w0⟩ : ∃ l, SlOf (VImg) 1 W (.slice a0 n0 c0) l := by
    obtain ⟨fuel, hf⟩ := h0
    exact top_sl opensImg (by decide) Try.underlying47 hf
  have z0 : n0 * Try.prog.bytesOf 22 ≤ reachBytes := by
    obtain ⟨fuel, hf⟩ := k0
    rcases DataW.trod_slice Try.underlying47 hf with ⟨hcs, _⟩ | ⟨a', len, cap, elems, rest, n', _, hcs, hx, _, _, _, hlen, _⟩
    · cases hcs
      rw [Nat.zero_mul]
      exact Nat.zero_le _
    · cases hcs
      cases hx
      have h9 := sized_slice hsz (j := 0) (t := 47) rfl rfl Try.underlying47
      rw [List.length_map, hlen] at h9
      exact Nat.le_trans (Nat.mul_le_mul_right _ (Nat.le_add_right _ _)) h9
  obtain ⟨a1, n1, c1, rfl⟩ := okWide_slice Try.underlying39 (hval 1 39 v1 rfl rfl)
  have k1 := h1
  have lt1 : ∀ x ∈ p1, x.block < W.heap.size := by obtain ⟨m, hm⟩ := k1; exact DataW.trod_lt m _ _ _ hm
  obtain ⟨l1, w1⟩ : ∃ l, SlOf (VStep) 4 W (.slice a1 n1 c1) l := by
    obtain ⟨fuel, hf⟩ := h1
    exact top_sl opensStep (by decide) Try.underlying39 hf
  have z1 : n1 * Try.prog.bytesOf 42 ≤ reachBytes := by
    obtain ⟨fuel, hf⟩ := k1
    rcases DataW.trod_slice Try.underlying39 hf with ⟨hcs, _⟩ | ⟨a', len, cap, elems, rest, n', _, hcs, hx, _, _, _, hlen, _⟩
    · cases hcs
      rw [Nat.zero_mul]
      exact Nat.zero_le _
    · cases hcs
      cases hx
      have h9 := sized_slice hsz (j := 1) (t := 39) rfl rfl Try.underlying39
      rw [List.length_map, hlen] at h9
      exact Nat.le_trans (Nat.mul_le_mul_right _ (Nat.le_add_right _ _)) h9
  obtain ⟨a2, n2, c2, rfl⟩ := okWide_slice Try.underlying39 (hval 2 39 v2 rfl rfl)
  have k2 := h2
  have lt2 : ∀ x ∈ p2, x.block < W.heap.size := by obtain ⟨m, hm⟩ := k2; exact DataW.trod_lt m _ _ _ hm
  obtain ⟨l2, w2⟩ : ∃ l, SlOf (VStep) 4 W (.slice a2 n2 c2) l := by
    obtain ⟨fuel, hf⟩ := h2
    exact top_sl opensStep (by decide) Try.underlying39 hf
  have z2 : n2 * Try.prog.bytesOf 42 ≤ reachBytes := by
    obtain ⟨fuel, hf⟩ := k2
    rcases DataW.trod_slice Try.underlying39 hf with ⟨hcs, _⟩ | ⟨a', len, cap, elems, rest, n', _, hcs, hx, _, _, _, hlen, _⟩
    · cases hcs
      rw [Nat.zero_mul]
      exact Nat.zero_le _
    · cases hcs
      cases hx
      have h9 := sized_slice hsz (j := 2) (t := 39) rfl rfl Try.underlying39
      rw [List.length_map, hlen] at h9
      exact Nat.le_trans (Nat.mul_le_mul_right _ (Nat.le_add_right _ _)) h9
  clear hA0 hval0 hval hsz
  refine (diskImages_walk a0 n0 c0 l0 a1 n1 c1 l1 a2 n2 c2 l2 W (imr_of w0) (by have h := z0; rw [show Try.prog.bytesOf 22 = 24 by kernel_rfl] at h; unfold reachBytes at h; omega) w1 w2).mono fun e W' ⟨he, bel⟩ => ?_
  subst he
  exact ⟨_, rfl, _, _, _, [], _, [], hW', trodAll_mk1 (shut_bool Try.underlying4 _), (trodAll_cons_mk (Below.trod laidOut (by kernel_rfl) (of_decide_eq_true (by kernel_rfl)) k0 bel lt0) (trodAll_cons_mk (Below.trod laidOut (by kernel_rfl) (of_decide_eq_true (by kernel_rfl)) k1 bel lt1) (trodAll_cons_mk (Below.trod laidOut (by kernel_rfl) (of_decide_eq_true (by kernel_rfl)) k2 bel lt2) trodAll_mk0))), rfl, bel.frame _, fun h => by cases h⟩

theorem over : Rows.diskImagesRow.holds Try.pinned (OpenSpec.ofChange Rows.diskImagesSpec) :=
  OpenClaim.holds_of_wide 9 Try.f9 rfl rfl rfl rfl rfl rfl rfl ⟨rfl, rfl, rfl, rfl, rfl⟩ rfl rfl rfl rfl rfl (by kernel_rfl) Try.func9 (by kernel_rfl)
    (of_decide_eq_true (by kernel_rfl)) (by unfold Func.isWrapper; first | (rw [if_pos (by decide +kernel)]; kernel_rfl) | (rw [if_neg (by decide +kernel)]; exact ⟨rfl, rfl⟩))
    (fun os started H enc _ => lifted os started H enc)

theorem proved : Rows.DiskImagesSaid :=
  over
#print axioms proved
end Go.Proofs.Ytcocodpeigbdaaa.diskImages
