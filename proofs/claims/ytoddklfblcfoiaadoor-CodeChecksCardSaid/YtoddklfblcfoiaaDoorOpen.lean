/-
  How what came in reads: integers, bytes, slices of bytes. No condition.
-/
import Derived.Test.YtoddklfblcfoiaaDoorMem
import Derived.ProofKit
import Derived.OpenShut
import Derived.Deep.Matrix
namespace Go.Proofs.YtoddklfblcfoiaaDoor
open Go.RowKit
def IsRowM (k : IntKind) (w : World) (a : Option Addr) (len cap : Nat) (zs : List Int) : Prop :=
  (a = none ∧ len = 0 ∧ cap = 0 ∧ zs = []) ∨
  ∃ x, a = some x ∧ len ≤ cap ∧ cap ≤ maxLen ∧ zs.length = cap ∧ (∀ i, i < zs.length → w.cell? (x.add i) = some (.int k (zs.getD i 0))) ∧ ∀ n ∈ zs, (Lit.int k n).wf = true
theorem addr_of_cells {w : World} {x : Addr} {k : IntKind} {zs : List Int} (h : ∀ i, i < zs.length → w.cell? (x.add i) = some (.int k (zs.getD i 0))) (hp : 0 < zs.length) :
    ∃ b off, x = ⟨b, off, none⟩ ∧ ∀ i, i < zs.length → w.cell? ⟨b, off + i, none⟩ = some (.int k (zs.getD i 0)) := by
  obtain ⟨b, off, spot⟩ := x
  have h0 := h 0 hp
  have hs : spot = none := by simpa [Addr.add] using World.cell?_spot h0
  subst hs
  exact ⟨b, off, rfl, fun i hi => by rw [← add_eq]; exact h i hi⟩
/-- integers that came in, as a list of cells -/
theorem row_sl {k : IntKind} {w : World} {a : Option Addr} {len cap : Nat} {zs : List Int} (h : IsRowM k w a len cap zs) : Sl w 1 (.slice a len cap) len ((zs.take len).map (Value.int k)) := by
  rcases h with ⟨rfl, rfl, rfl, rfl⟩ | ⟨x, rfl, h1, h2, h3, h4, _⟩
  · exact ⟨rfl, none, 0, rfl, Nat.le_refl _, by decide, fun _ => rfl, fun j u hu => by simp at hu⟩
  · refine ⟨by simp; omega, some x, cap, rfl, h1, h2, by simp, fun j u hu => ?_⟩
    have hj : j < len := by
      have := (List.getElem?_eq_some_iff.1 hu).1
      simp at this; omega
    obtain ⟨b, off, rfl, hc⟩ := addr_of_cells h4 (by omega)
    refine ⟨b, off, rfl, ?_⟩
    rw [hc j (by omega)]
    simp [hj, show j < zs.length by omega] at hu
    rw [← hu]
    simp [show j < zs.length by omega]
def bytesOf (zs : List Int) : List UInt8 := zs.map fun z => UInt8.ofNat z.toNat
theorem bytes_eq {zs : List Int} (h : ∀ n ∈ zs, (Lit.int .u8 n).wf = true) : zs.map (Value.int .u8) = bvs (bytesOf zs) := by
  unfold bvs bytesOf
  rw [List.map_map]
  apply List.map_congr_left
  intro z hz
  have := bounds_u8 (h z hz)
  simp
  omega
theorem row_bytes {w : World} {a : Option Addr} {len cap : Nat} {zs : List Int} (h : IsRowM .u8 w a len cap zs) : Sl w 1 (.slice a len cap) len (bvs (bytesOf (zs.take len))) := by
  have h1 := row_sl h
  rw [bytes_eq] at h1
  · exact h1
  · rcases h with ⟨rfl, rfl, rfl, rfl⟩ | ⟨x, rfl, _, _, _, _, h5⟩
    · intro n hn; simp at hn
    · exact fun n hn => h5 n (List.mem_of_mem_take hn)
theorem nat_u8 {a : Int} (h : (Lit.int .u8 a).wf = true) : ∃ s : Nat, s < 256 ∧ a = s := ⟨a.toNat, by have := bounds_u8 h; omega, by have := bounds_u8 h; omega⟩
theorem nat_u16 {a : Int} (h : (Lit.int .u16 a).wf = true) : ∃ s : Nat, s < 65536 ∧ a = s := ⟨a.toNat, by have := bounds_u16 h; omega, by have := bounds_u16 h; omega⟩
theorem nat_u64 {a : Int} (h : (Lit.int .u64 a).wf = true) : ∃ s : Nat, s < 18446744073709551616 ∧ a = s := ⟨a.toNat, by have := bounds_u64 h; omega, by have := bounds_u64 h; omega⟩
theorem nat_u32 {a : Int} (h : (Lit.int .u32 a).wf = true) : ∃ s : Nat, s < 4294967296 ∧ a = s := ⟨a.toNat, by have := bounds_u32 h; omega, by have := bounds_u32 h; omega⟩
theorem open_bytes2 {H : Type} {enc : TypeId × Value → H} {P : Program} {w : World} {base : Nat} {held : Bool} {t e q : TypeId} {fuel : Nat} {a : Option Addr} {n c : Nat} {x : DataW H × List MemPlace} (ht : P.underlying t = some (.slice e)) (he : P.underlying e = some (.slice q)) (hq : P.underlying q = some (.int .u8))
    (ce : P.cellsOf e = 1) (cq : P.cellsOf q = 1) (h : DataW.trod enc P w base (fun _ => true) held fuel t (Value.slice a n c).cells.toList = some x) :
    ∃ (vs : List Value) (rs : List (List UInt8)), Sl w 1 (.slice a n c) n vs ∧ ∀ (k : Nat) (u : Value), vs[k]? = some u → ∃ r, rs[k]? = some r ∧ Sl w 1 u r.length (bvs r) := by
  rcases Deep.open_int_rows ht he hq ce cq h with ⟨hcs, _⟩ | ⟨ad, len, cap, A, L, C, Z, hcs, _, hl, hm, _, hx⟩
  · simp [Value.cells] at hcs
    obtain ⟨rfl, rfl, rfl⟩ := hcs
    exact ⟨[], [], ⟨rfl, none, 0, rfl, Nat.le_refl _, by decide, fun _ => rfl, fun j u hu => by simp at hu⟩, fun k u hu => by simp at hu⟩
  · simp [Value.cells] at hcs
    obtain ⟨rfl, rfl, rfl⟩ := hcs
    refine ⟨(List.range n).map fun r => .slice (A r) (L r) (C r), (List.range n).map fun r => bytesOf ((Z r).take (L r)), ⟨by simp, some ad, c, rfl, hl, hm, by simp, fun j u hu => ?_⟩, fun k u hu => ?_⟩
    · have hj : j < n := by
        have := (List.getElem?_eq_some_iff.1 hu).1
        simpa using this
      have h0 := (hx 0 (by omega)).1
      obtain ⟨b, off, spot⟩ := ad
      have hs : spot = none := by simpa [Addr.add] using World.cell?_spot h0
      subst hs
      refine ⟨b, off, rfl, ?_⟩
      have := (hx j (by omega)).1
      rw [add_eq] at this
      rw [this]
      simpa [hj] using hu
    · have hk : k < n := by
        have := (List.getElem?_eq_some_iff.1 hu).1
        simpa using this
      obtain ⟨h1, h2, h3, h4, h5, h6, h7⟩ := hx k (by omega)
      simp [hk] at hu
      subst hu
      refine ⟨bytesOf ((Z k).take (L k)), by simp [hk], ?_⟩
      have hlen : (bytesOf ((Z k).take (L k))).length = L k := by simp [bytesOf]; omega
      rw [hlen]
      refine row_bytes (cap := C k) (zs := Z k) ?_
      cases hA : A k with
      | none =>
        have hC := h6 hA
        left
        refine ⟨rfl, by omega, hC, List.eq_nil_of_length_eq_zero (by omega)⟩
      | some a' =>
        right
        exact ⟨a', rfl, h2, h3, h4, fun i hi => (h7 a' hA).2 i (by omega), h5⟩
end Go.Proofs.YtoddklfblcfoiaaDoor
