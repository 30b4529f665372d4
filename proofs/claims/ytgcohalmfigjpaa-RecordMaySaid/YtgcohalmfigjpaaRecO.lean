/-
  An object that came in, as it reads.
-/
import Derived.Test.YtgcohalmfigjpaaRecB
import Derived.Test.YtgcohalmfigjpaaGen
namespace Go.Proofs.Ytgcohalmfigjpaa
open Go.RowKit
set_option linter.unusedVariables false

def VWord : World → List Value → UInt8 × Int → Prop := VRec2 1 1 VByte (VInt .i64)
def VObj : World → List Value → UInt8 × Int × List (UInt8 × Int) × List UInt8 → Prop := VRec4 1 1 1 1 VByte (VInt .i64) (VSl VWord 2) VStr
theorem opensWord : Opens Try.prog 44 2 VWord := opens_rec2 Try.underlying44 (by kernel_rfl) rfl rfl rfl rfl (opens_byte Try.underlying5 (by kernel_rfl)) (opens_int Try.underlying2 (by kernel_rfl))
theorem opensObj : Opens Try.prog 24 4 VObj := opens_rec4 Try.underlying24 (by kernel_rfl) rfl rfl rfl rfl rfl rfl rfl rfl (opens_byte Try.underlying5 (by kernel_rfl)) (opens_int Try.underlying3 (by kernel_rfl)) (opens_sl opensWord (by decide) Try.underlying22 (by kernel_rfl)) (opens_str Try.underlying9 (by kernel_rfl))
theorem words_sl {w : World} {v : Value} {l : List (UInt8 × Int)} (h : SlOf VWord 2 w v l) : Sl w 2 v l.length (wcells l) := by
  obtain ⟨a, c, rfl, h1, h2, h3, h4⟩ := h
  refine ⟨wcells_len l, a, c, rfl, h1, h2, h3, fun j u hu => ?_⟩
  have hj : j < l.length * 2 := by
    have := (List.getElem?_eq_some_iff.1 hu).1
    rwa [wcells_len] at this
  obtain ⟨q, r, hjq, hr2⟩ : ∃ q r : Nat, j = q * 2 + r ∧ r < 2 := ⟨j / 2, j % 2, by omega, by omega⟩
  subst hjq
  have hk : q < l.length := by omega
  obtain ⟨b, off, cs, ha, hl, hv, hc⟩ := h4 q hk
  obtain ⟨c0, c1, rfl, l0, l1, v0, v1, _⟩ := hv
  refine ⟨b, off, ha, ?_⟩
  obtain ⟨e1, e2⟩ := wcells_at l q hk
  have hg : l.getD q (0, 0) = l[q] := by simp [hk]
  rw [hg] at e1 e2
  rw [v0] at hc
  rw [v1] at hc
  have hcr := hc r hr2
  rw [Nat.add_assoc] at hcr
  rw [hcr, ← hu]
  match r, hr2 with
  | 0, _ => rw [Nat.add_zero, e1]; rfl
  | 1, _ => rw [e2]; rfl
theorem obj_open {w : World} {cs : Array Value} {d : UInt8 × Int × List (UInt8 × Int) × List UInt8} (h : VObj w cs.toList d) :
    ∃ (K : UInt8) (t : Int) (a : Option Addr) (n c : Nat) (l : List (UInt8 × Int)) (S : List UInt8), cs = #[.int .u8 (K.toNat : Int), .int .i64 t, .slice a n c, .string (str S)] ∧ Sl w 2 (.slice a n c) n (wcells l) ∧ S.length ≤ 9223372036854775807 := by
  obtain ⟨K, t, l, S⟩ := d
  obtain ⟨c0, c1, c2, c3, hcs, l0, l1, l2, l3, v0, v1, v2, v3⟩ := h
  obtain ⟨v1, _⟩ := v1
  obtain ⟨v, v2, hs⟩ := v2
  obtain ⟨v3, hS⟩ := v3
  have hw := words_sl hs
  obtain ⟨a, c, rfl⟩ := hw.form
  refine ⟨K, t, a, l.length, c, l, S, ?_, hw, by simpa [maxLen] using hS⟩
  apply Array.toList_inj.1
  rw [hcs, v0, v1, v2, v3]
  rfl
end Go.Proofs.Ytgcohalmfigjpaa
