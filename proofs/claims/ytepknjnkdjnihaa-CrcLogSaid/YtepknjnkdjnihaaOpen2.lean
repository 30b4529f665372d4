/-
  How a slice of slices of bytes that came in reads. No condition.
-/
import Derived.Test.YtepknjnkdjnihaaOpen
import Derived.Deep.Matrix
namespace Go.Proofs.Ytepknjnkdjnihaa
open Go.RowKit
theorem open_bytes2 {H : Type} {enc : TypeId × Value → H} {P : Program} {w : World} {base : Nat} {held : Bool} {t e q : TypeId} {fuel : Nat} {a : Option Addr} {n c : Nat} {x : DataW H × List MemPlace} (ht : P.underlying t = some (.slice e)) (he : P.underlying e = some (.slice q)) (hq : P.underlying q = some (.int .u8))
    (ce : P.cellsOf e = 1) (cq : P.cellsOf q = 1) (h : DataW.trod enc P w base (fun _ => true) held fuel t (Value.slice a n c).cells.toList = some x) :
    ∃ (vs : List Value) (rs : List (List UInt8)), Sl w 1 (.slice a n c) n vs ∧ ∀ (k : Nat) (u : Value), vs[k]? = some u → ∃ r, rs[k]? = some r ∧ Sl w 1 u r.length (bvs r) := by
  rcases Deep.open_int_rows ht he hq ce cq h with ⟨hcs, _⟩ | ⟨ad, len, cap, A, L, C, Z, hcs, _, hl, hm, _, hx⟩
  · simp [Value.cells] at hcs
    obtain ⟨rfl, rfl, rfl⟩ := hcs
    exact ⟨[], [], ⟨rfl, none, 0, rfl, Nat.le_refl _, by decide, fun _ => rfl, fun j u hu => by simp at hu⟩, fun k u hu => by simp at hu⟩
  · simp [Value.cells] at hcs
    obtain ⟨rfl, rfl, rfl⟩ := hcs
    refine ⟨(List.range n).map fun r => .slice (A r) (L r) (C r), (List.range n).map fun r => bytesOf ((Z r).take (L r)), ⟨by simp, some ad, c, rfl, hl, hm, by simp, fun j u hu => ?_⟩, fun k u hu => ?_⟩
    · have hj : j < n := by
        have := (List.getElem?_eq_some_iff.1 hu).1
        simpa using this
      have h0 := (hx 0 (by omega)).1
      obtain ⟨b, off, spot⟩ := ad
      have hs : spot = none := by simpa [Addr.add] using World.cell?_spot h0
      subst hs
      refine ⟨b, off, rfl, ?_⟩
      have := (hx j (by omega)).1
      rw [add_eq] at this
      rw [this]
      simpa [hj] using hu
    · have hk : k < n := by
        have := (List.getElem?_eq_some_iff.1 hu).1
        simpa using this
      obtain ⟨h1, h2, h3, h4, h5, h6, h7⟩ := hx k (by omega)
      simp [hk] at hu
      subst hu
      refine ⟨bytesOf ((Z k).take (L k)), by simp [hk], ?_⟩
      have hlen : (bytesOf ((Z k).take (L k))).length = L k := by simp [bytesOf]; omega
      rw [hlen]
      refine row_bytes (cap := C k) (zs := Z k) ?_
      cases hA : A k with
      | none =>
        have hC := h6 hA
        left
        refine ⟨rfl, by omega, hC, List.eq_nil_of_length_eq_zero (by omega)⟩
      | some a' =>
        right
        exact ⟨a', rfl, h2, h3, h4, fun i hi => (h7 a' hA).2 i (by omega), h5⟩
end Go.Proofs.Ytepknjnkdjnihaa
