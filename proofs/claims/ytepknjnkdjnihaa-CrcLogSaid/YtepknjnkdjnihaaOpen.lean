/-
  How a slice of bytes that came in reads as bytes. No condition.
-/
import Derived.Test.YtepknjnkdjnihaaMem
import Derived.ProofKit
import Derived.OpenShut
namespace Go.Proofs.Ytepknjnkdjnihaa
open Go.RowKit
def IsRowM (k : IntKind) (w : World) (a : Option Addr) (len cap : Nat) (zs : List Int) : Prop :=
  (a = none ∧ len = 0 ∧ cap = 0 ∧ zs = []) ∨
  ∃ x, a = some x ∧ len ≤ cap ∧ cap ≤ maxLen ∧ zs.length = cap ∧ (∀ i, i < zs.length → w.cell? (x.add i) = some (.int k (zs.getD i 0))) ∧ ∀ n ∈ zs, (Lit.int k n).wf = true
theorem addr_of_cells {w : World} {x : Addr} {k : IntKind} {zs : List Int} (h : ∀ i, i < zs.length → w.cell? (x.add i) = some (.int k (zs.getD i 0))) (hp : 0 < zs.length) :
    ∃ b off, x = ⟨b, off, none⟩ ∧ ∀ i, i < zs.length → w.cell? ⟨b, off + i, none⟩ = some (.int k (zs.getD i 0)) := by
  obtain ⟨b, off, spot⟩ := x
  have h0 := h 0 hp
  have hs : spot = none := by simpa [Addr.add] using World.cell?_spot h0
  subst hs
  exact ⟨b, off, rfl, fun i hi => by rw [← add_eq]; exact h i hi⟩
/-- integers that came in, as a list of cells -/
theorem row_sl {k : IntKind} {w : World} {a : Option Addr} {len cap : Nat} {zs : List Int} (h : IsRowM k w a len cap zs) : Sl w 1 (.slice a len cap) len ((zs.take len).map (Value.int k)) := by
  rcases h with ⟨rfl, rfl, rfl, rfl⟩ | ⟨x, rfl, h1, h2, h3, h4, _⟩
  · exact ⟨rfl, none, 0, rfl, Nat.le_refl _, by decide, fun _ => rfl, fun j u hu => by simp at hu⟩
  · refine ⟨by simp; omega, some x, cap, rfl, h1, h2, by simp, fun j u hu => ?_⟩
    have hj : j < len := by
      have := (List.getElem?_eq_some_iff.1 hu).1
      simp at this; omega
    obtain ⟨b, off, rfl, hc⟩ := addr_of_cells h4 (by omega)
    refine ⟨b, off, rfl, ?_⟩
    rw [hc j (by omega)]
    simp [hj, show j < zs.length by omega] at hu
    rw [← hu]
    simp [show j < zs.length by omega]
def bytesOf (zs : List Int) : List UInt8 := zs.map fun z => UInt8.ofNat z.toNat
theorem bytes_eq {zs : List Int} (h : ∀ n ∈ zs, (Lit.int .u8 n).wf = true) : zs.map (Value.int .u8) = bvs (bytesOf zs) := by
  unfold bvs bytesOf
  rw [List.map_map]
  apply List.map_congr_left
  intro z hz
  have := bounds_u8 (h z hz)
  simp
  omega
theorem row_bytes {w : World} {a : Option Addr} {len cap : Nat} {zs : List Int} (h : IsRowM .u8 w a len cap zs) : Sl w 1 (.slice a len cap) len (bvs (bytesOf (zs.take len))) := by
  have h1 := row_sl h
  rw [bytes_eq] at h1
  · exact h1
  · rcases h with ⟨rfl, rfl, rfl, rfl⟩ | ⟨x, rfl, _, _, _, _, h5⟩
    · intro n hn; simp at hn
    · exact fun n hn => h5 n (List.mem_of_mem_take hn)
theorem nat_u8 {a : Int} (h : (Lit.int .u8 a).wf = true) : ∃ s : Nat, s < 256 ∧ a = s := ⟨a.toNat, by have := bounds_u8 h; omega, by have := bounds_u8 h; omega⟩
theorem nat_u16 {a : Int} (h : (Lit.int .u16 a).wf = true) : ∃ s : Nat, s < 65536 ∧ a = s := ⟨a.toNat, by have := bounds_u16 h; omega, by have := bounds_u16 h; omega⟩
theorem nat_u32 {a : Int} (h : (Lit.int .u32 a).wf = true) : ∃ s : Nat, s < 4294967296 ∧ a = s := ⟨a.toNat, by have := bounds_u32 h; omega, by have := bounds_u32 h; omega⟩
end Go.Proofs.Ytepknjnkdjnihaa
