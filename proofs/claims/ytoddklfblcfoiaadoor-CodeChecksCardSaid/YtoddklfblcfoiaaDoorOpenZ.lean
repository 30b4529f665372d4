/-
  How what came in reads, with the reach of a machine handed on: strings and slices within it. No condition.
-/
import Derived.Test.YtoddklfblcfoiaaDoorGen
import Derived.SizedLaws
set_option linter.unusedVariables false
namespace Go.Proofs.YtoddklfblcfoiaaDoor
open Go.RowKit

def OpensZ {α : Type} (P : Program) (e : TypeId) (size : Nat) (V : World → List Value → α → Prop) : Prop :=
  P.cellsOf e = size ∧ ∀ (H : Type) (enc : TypeId × Value → H) (w : World) (base : Nat) (held : Bool) (fuel : Nat) (cs : List Value) (x : DataW H × List MemPlace), DataW.trod enc P w base (fun _ => true) held fuel e cs = some x → (∀ n ∈ x.1.weights P e, n ≤ reachBytes) → cs.length = size ∧ ∃ d, V w cs d
section
variable {P : Program} {e : TypeId}
theorem Opens.z {α : Type} {size : Nat} {V : World → List Value → α → Prop} (h : Opens P e size V) : OpensZ P e size V := ⟨h.1, fun H enc w base held fuel cs x hx _ => h.2 H enc w base held fuel cs x hx⟩
def VStrZ (w : World) (cs : List Value) (l : List UInt8) : Prop := VStr w cs l ∧ l.length ≤ reachBytes
theorem stab_strZ : Stab VStrZ := fun _ _ _ _ _ h => h
theorem opensZ_str (he : P.underlying e = some .string) (hc : P.cellsOf e = 1) : OpensZ P e 1 VStrZ :=
  ⟨hc, fun H enc w base held fuel cs x h hz => by
    obtain ⟨s, rfl, hx, hm⟩ := DataW.trod_string he h
    refine ⟨rfl, s.data.toList, ⟨by rw [str_data], by rw [Array.length_toList]; exact hm⟩, ?_⟩
    refine hz _ ?_
    rw [hx]
    simp [DataW.weights]⟩
def VSlZ {α : Type} (V : World → List Value → α → Prop) (size bytes : Nat) (w : World) (cs : List Value) (l : List α) : Prop := VSl V size w cs l ∧ l.length * bytes ≤ reachBytes
theorem stab_slZ {α : Type} {V : World → List Value → α → Prop} {size bytes : Nat} (hV : Stab V) : Stab (VSlZ V size bytes) := fun _ _ _ _ hb h => ⟨stab_sl hV _ _ _ _ hb h.1, h.2⟩
theorem weights_all {H : Type} {e : TypeId} : ∀ {l : List (DataW H)} {d : DataW H}, d ∈ l → ∀ n ∈ d.weights P e, n ∈ DataW.weightsAll P e l
  | x :: l, d, hd, n, hn => by
    simp only [DataW.weightsAll, List.mem_append]
    rcases List.mem_cons.1 hd with rfl | hd
    · exact .inl hn
    · exact .inr (weights_all hd n hn)
theorem top_slZ {α : Type} {V : World → List Value → α → Prop} {size : Nat} {t : TypeId} (hO : OpensZ P e size V) (hs : 0 < size) (ht : P.underlying t = some (.slice e)) {H : Type} {enc : TypeId × Value → H} {w : World} {base : Nat} {held : Bool} {fuel : Nat} {v : Value} {x : DataW H × List MemPlace}
    (h : DataW.trod enc P w base (fun _ => true) held fuel t [v] = some x) (hz : ∀ n ∈ x.1.weights P t, n ≤ reachBytes) : ∃ l, SlOf V size w v l ∧ l.length * P.bytesOf e ≤ reachBytes := by
  rcases DataW.trod_slice ht h with ⟨hcs, _⟩ | ⟨a, len, cap, elems, rest, n, _, hcs, hx1, hb, hl, hm, hlen, hel, _⟩
  · cases hcs
    exact ⟨[], ⟨none, 0, rfl, Nat.le_refl _, by decide, fun _ => rfl, fun i hi => by simp at hi⟩, by rw [List.length_nil, Nat.zero_mul]; exact Nat.zero_le _⟩
  · cases hcs
    rw [hx1] at hz
    simp only [DataW.weights, ht] at hz
    have key : ∀ i, i < len → ∃ d, ∃ b off cs, (some a : Option Addr) = some ⟨b, off, none⟩ ∧ cs.length = size ∧ V w cs d ∧ ∀ j, j < size → w.cell? ⟨b, off + i * size + j, none⟩ = cs[j]? := by
      intro i hi
      have h1 := hel i hi
      rw [List.getElem?_eq_getElem (by omega)] at h1
      obtain ⟨cs, hcs, hx⟩ := Option.bind_eq_some_iff.1 h1
      obtain ⟨hlen2, d, hd⟩ := hO.2 _ _ _ _ _ _ _ _ hx (fun n hn => hz n (by
        simp only [List.mem_cons, List.mem_append]
        refine .inr (.inl (weights_all (P := P) (e := e) (d := (elems[i]'(by omega)).1) (List.mem_map.2 ⟨_, List.getElem_mem _, rfl⟩) n hn))))
      obtain ⟨_, hcl, hcell⟩ := World.cells?_some hcs
      rw [hO.1] at hcell hcl
      obtain ⟨b, off, spot⟩ := a
      have hsp : spot = none := by
        have g1 := hel 0 (by omega)
        rw [List.getElem?_eq_getElem (by omega)] at g1
        obtain ⟨cs2, hcs2, hx2⟩ := Option.bind_eq_some_iff.1 g1
        obtain ⟨_, hcl2, hcell2⟩ := World.cells?_some hcs2
        rw [hO.1] at hcell2 hcl2
        have h0 := hcell2 0 hs
        rw [List.getElem?_eq_getElem (by omega), Nat.zero_mul] at h0
        exact World.cell?_spot h0
      subst hsp
      refine ⟨d, b, off, cs, rfl, hcl, hd, fun j hj => ?_⟩
      have := hcell j hj
      rw [add_eq, add_eq] at this
      exact this
    obtain ⟨l, hl1, hl2⟩ := list_of len key
    subst hl1
    refine ⟨l, ⟨some a, cap, rfl, hl, hm, by simp, hl2⟩, ?_⟩
    have := hz _ (List.mem_cons_self ..)
    refine Nat.le_trans (Nat.mul_le_mul_right _ ?_) this
    simp only [List.length_map]
    omega
theorem opensZ_sl {α : Type} {V : World → List Value → α → Prop} {size bytes : Nat} {t : TypeId} (hO : OpensZ P e size V) (hs : 0 < size) (ht : P.underlying t = some (.slice e)) (hc : P.cellsOf t = 1) (hb : P.bytesOf e = bytes) : OpensZ P t 1 (VSlZ V size bytes) :=
  ⟨hc, fun H enc w base held fuel cs x h hz => by
    have hv : ∃ v, cs = [v] := by
      rcases DataW.trod_slice ht h with ⟨hcs, _⟩ | ⟨a, len, cap, elems, rest, n, _, hcs, _⟩
      · exact ⟨_, hcs⟩
      · exact ⟨_, hcs⟩
    obtain ⟨v, rfl⟩ := hv
    obtain ⟨l, hl, h2⟩ := top_slZ hO hs ht h hz
    exact ⟨rfl, l, ⟨v, rfl, hl⟩, by rw [← hb]; exact h2⟩⟩
theorem fieldZ_of {fs : Array Field} (ht : P.underlying e = some (.struct fs)) {H : Type} {enc : TypeId × Value → H} {w : World} {base : Nat} {held : Bool} {fuel : Nat} {cs : List Value} {x : DataW H × List MemPlace} (h : DataW.trod enc P w base (fun _ => true) held fuel e cs = some x) (hz : ∀ n ∈ x.1.weights P e, n ≤ reachBytes)
    (k : Nat) {f : Field} (hf : fs[k]? = some f) {α : Type} {V : World → List Value → α → Prop} {size : Nat} (hO : OpensZ P f.type size V) : ∃ d, V w ((cs.drop f.offset).take size) d := by
  obtain ⟨xs, n, _, hx0, hl, hxl, hx⟩ := DataW.trod_struct ht h
  have := hx k f hf
  have hk := (Array.getElem?_eq_some_iff.1 hf).1
  rw [List.getElem?_eq_getElem (by omega), hO.1] at this
  refine (hO.2 _ _ _ _ _ _ _ _ this (fun n hn => hz n ?_)).2
  rw [hx0]
  simp only [DataW.weights, ht]
  refine DataW.weights_mem_each (j := k) (t := f.type) (d := (xs[k]'(by omega)).1) ?_ ?_ n hn
  · rw [List.getElem?_map, Array.getElem?_toList, hf]; rfl
  · rw [List.getElem?_map, List.getElem?_eq_getElem (by omega)]; rfl

theorem opensZ_rec2 {α0 α1 : Type} {s0 s1 : Nat} {V0 : World → List Value → α0 → Prop} {V1 : World → List Value → α1 → Prop} {fs : Array Field} {f0 : Field} {f1 : Field} (ht : P.underlying e = some (.struct fs)) (hc : P.cellsOf e = s0 + s1) (hf0 : fs[0]? = some f0) (hf1 : fs[1]? = some f1) (ho0 : f0.offset = 0) (ho1 : f1.offset = s0) (hO0 : OpensZ P f0.type s0 V0) (hO1 : OpensZ P f1.type s1 V1) : OpensZ P e (s0 + s1) (VRec2 s0 s1 V0 V1) :=
  ⟨hc, fun H enc w base held fuel cs x h hz => by
    obtain ⟨xs, n, hn, _, hl, _, _⟩ := DataW.trod_struct ht h
    rw [hc] at hl
    obtain ⟨d0, v0⟩ := fieldZ_of ht h hz 0 hf0 hO0
    rw [ho0] at v0
    obtain ⟨d1, v1⟩ := fieldZ_of ht h hz 1 hf1 hO1
    rw [ho1] at v1
    refine ⟨hl, ⟨d0, d1⟩, (cs.drop (0)).take s0, (cs.drop (s0)).take s1, ?_, by simp; omega, by simp; omega, v0, v1⟩
    have sp : ∀ (k s : Nat), cs.drop k = (cs.drop k).take s ++ cs.drop (k + s) := fun k s => by rw [← List.drop_drop, List.take_append_drop]
    have hend : ∀ k, k = s0 + s1 → cs.drop k = [] := fun k hk => List.drop_eq_nil_of_le (by omega)
    have e0 : cs = cs.drop 0 := rfl
    have p0 : cs.drop (0) = (cs.drop (0)).take s0 ++ cs.drop (s0) := by have := sp (0) s0; rwa [Nat.zero_add] at this
    have p1 : cs.drop (s0) = (cs.drop (s0)).take s1 ++ cs.drop (s0 + s1) := by have := sp (s0) s1; exact this
    rw [hend _ rfl, List.append_nil] at p1
    conv => lhs; rw [e0, p0]
    congr 1⟩

theorem opensZ_rec4 {α0 α1 α2 α3 : Type} {s0 s1 s2 s3 : Nat} {V0 : World → List Value → α0 → Prop} {V1 : World → List Value → α1 → Prop} {V2 : World → List Value → α2 → Prop} {V3 : World → List Value → α3 → Prop} {fs : Array Field} {f0 : Field} {f1 : Field} {f2 : Field} {f3 : Field} (ht : P.underlying e = some (.struct fs)) (hc : P.cellsOf e = s0 + s1 + s2 + s3) (hf0 : fs[0]? = some f0) (hf1 : fs[1]? = some f1) (hf2 : fs[2]? = some f2) (hf3 : fs[3]? = some f3) (ho0 : f0.offset = 0) (ho1 : f1.offset = s0) (ho2 : f2.offset = s0 + s1) (ho3 : f3.offset = s0 + s1 + s2) (hO0 : OpensZ P f0.type s0 V0) (hO1 : OpensZ P f1.type s1 V1) (hO2 : OpensZ P f2.type s2 V2) (hO3 : OpensZ P f3.type s3 V3) : OpensZ P e (s0 + s1 + s2 + s3) (VRec4 s0 s1 s2 s3 V0 V1 V2 V3) :=
  ⟨hc, fun H enc w base held fuel cs x h hz => by
    obtain ⟨xs, n, hn, _, hl, _, _⟩ := DataW.trod_struct ht h
    rw [hc] at hl
    obtain ⟨d0, v0⟩ := fieldZ_of ht h hz 0 hf0 hO0
    rw [ho0] at v0
    obtain ⟨d1, v1⟩ := fieldZ_of ht h hz 1 hf1 hO1
    rw [ho1] at v1
    obtain ⟨d2, v2⟩ := fieldZ_of ht h hz 2 hf2 hO2
    rw [ho2] at v2
    obtain ⟨d3, v3⟩ := fieldZ_of ht h hz 3 hf3 hO3
    rw [ho3] at v3
    refine ⟨hl, ⟨d0, d1, d2, d3⟩, (cs.drop (0)).take s0, (cs.drop (s0)).take s1, (cs.drop (s0 + s1)).take s2, (cs.drop (s0 + s1 + s2)).take s3, ?_, by simp; omega, by simp; omega, by simp; omega, by simp; omega, v0, v1, v2, v3⟩
    have sp : ∀ (k s : Nat), cs.drop k = (cs.drop k).take s ++ cs.drop (k + s) := fun k s => by rw [← List.drop_drop, List.take_append_drop]
    have hend : ∀ k, k = s0 + s1 + s2 + s3 → cs.drop k = [] := fun k hk => List.drop_eq_nil_of_le (by omega)
    have e0 : cs = cs.drop 0 := rfl
    have p0 : cs.drop (0) = (cs.drop (0)).take s0 ++ cs.drop (s0) := by have := sp (0) s0; rwa [Nat.zero_add] at this
    have p1 : cs.drop (s0) = (cs.drop (s0)).take s1 ++ cs.drop (s0 + s1) := by have := sp (s0) s1; exact this
    have p2 : cs.drop (s0 + s1) = (cs.drop (s0 + s1)).take s2 ++ cs.drop (s0 + s1 + s2) := by have := sp (s0 + s1) s2; exact this
    have p3 : cs.drop (s0 + s1 + s2) = (cs.drop (s0 + s1 + s2)).take s3 ++ cs.drop (s0 + s1 + s2 + s3) := by have := sp (s0 + s1 + s2) s3; exact this
    rw [hend _ rfl, List.append_nil] at p3
    conv => lhs; rw [e0, p0]
    congr 1
    conv => lhs; rw [p1]
    congr 1
    conv => lhs; rw [p2]
    congr 1⟩

theorem opensZ_rec6 {α0 α1 α2 α3 α4 α5 : Type} {s0 s1 s2 s3 s4 s5 : Nat} {V0 : World → List Value → α0 → Prop} {V1 : World → List Value → α1 → Prop} {V2 : World → List Value → α2 → Prop} {V3 : World → List Value → α3 → Prop} {V4 : World → List Value → α4 → Prop} {V5 : World → List Value → α5 → Prop} {fs : Array Field} {f0 : Field} {f1 : Field} {f2 : Field} {f3 : Field} {f4 : Field} {f5 : Field} (ht : P.underlying e = some (.struct fs)) (hc : P.cellsOf e = s0 + s1 + s2 + s3 + s4 + s5) (hf0 : fs[0]? = some f0) (hf1 : fs[1]? = some f1) (hf2 : fs[2]? = some f2) (hf3 : fs[3]? = some f3) (hf4 : fs[4]? = some f4) (hf5 : fs[5]? = some f5) (ho0 : f0.offset = 0) (ho1 : f1.offset = s0) (ho2 : f2.offset = s0 + s1) (ho3 : f3.offset = s0 + s1 + s2) (ho4 : f4.offset = s0 + s1 + s2 + s3) (ho5 : f5.offset = s0 + s1 + s2 + s3 + s4) (hO0 : OpensZ P f0.type s0 V0) (hO1 : OpensZ P f1.type s1 V1) (hO2 : OpensZ P f2.type s2 V2) (hO3 : OpensZ P f3.type s3 V3) (hO4 : OpensZ P f4.type s4 V4) (hO5 : OpensZ P f5.type s5 V5) : OpensZ P e (s0 + s1 + s2 + s3 + s4 + s5) (VRec6 s0 s1 s2 s3 s4 s5 V0 V1 V2 V3 V4 V5) :=
  ⟨hc, fun H enc w base held fuel cs x h hz => by
    obtain ⟨xs, n, hn, _, hl, _, _⟩ := DataW.trod_struct ht h
    rw [hc] at hl
    obtain ⟨d0, v0⟩ := fieldZ_of ht h hz 0 hf0 hO0
    rw [ho0] at v0
    obtain ⟨d1, v1⟩ := fieldZ_of ht h hz 1 hf1 hO1
    rw [ho1] at v1
    obtain ⟨d2, v2⟩ := fieldZ_of ht h hz 2 hf2 hO2
    rw [ho2] at v2
    obtain ⟨d3, v3⟩ := fieldZ_of ht h hz 3 hf3 hO3
    rw [ho3] at v3
    obtain ⟨d4, v4⟩ := fieldZ_of ht h hz 4 hf4 hO4
    rw [ho4] at v4
    obtain ⟨d5, v5⟩ := fieldZ_of ht h hz 5 hf5 hO5
    rw [ho5] at v5
    refine ⟨hl, ⟨d0, d1, d2, d3, d4, d5⟩, (cs.drop (0)).take s0, (cs.drop (s0)).take s1, (cs.drop (s0 + s1)).take s2, (cs.drop (s0 + s1 + s2)).take s3, (cs.drop (s0 + s1 + s2 + s3)).take s4, (cs.drop (s0 + s1 + s2 + s3 + s4)).take s5, ?_, by simp; omega, by simp; omega, by simp; omega, by simp; omega, by simp; omega, by simp; omega, v0, v1, v2, v3, v4, v5⟩
    have sp : ∀ (k s : Nat), cs.drop k = (cs.drop k).take s ++ cs.drop (k + s) := fun k s => by rw [← List.drop_drop, List.take_append_drop]
    have hend : ∀ k, k = s0 + s1 + s2 + s3 + s4 + s5 → cs.drop k = [] := fun k hk => List.drop_eq_nil_of_le (by omega)
    have e0 : cs = cs.drop 0 := rfl
    have p0 : cs.drop (0) = (cs.drop (0)).take s0 ++ cs.drop (s0) := by have := sp (0) s0; rwa [Nat.zero_add] at this
    have p1 : cs.drop (s0) = (cs.drop (s0)).take s1 ++ cs.drop (s0 + s1) := by have := sp (s0) s1; exact this
    have p2 : cs.drop (s0 + s1) = (cs.drop (s0 + s1)).take s2 ++ cs.drop (s0 + s1 + s2) := by have := sp (s0 + s1) s2; exact this
    have p3 : cs.drop (s0 + s1 + s2) = (cs.drop (s0 + s1 + s2)).take s3 ++ cs.drop (s0 + s1 + s2 + s3) := by have := sp (s0 + s1 + s2) s3; exact this
    have p4 : cs.drop (s0 + s1 + s2 + s3) = (cs.drop (s0 + s1 + s2 + s3)).take s4 ++ cs.drop (s0 + s1 + s2 + s3 + s4) := by have := sp (s0 + s1 + s2 + s3) s4; exact this
    have p5 : cs.drop (s0 + s1 + s2 + s3 + s4) = (cs.drop (s0 + s1 + s2 + s3 + s4)).take s5 ++ cs.drop (s0 + s1 + s2 + s3 + s4 + s5) := by have := sp (s0 + s1 + s2 + s3 + s4) s5; exact this
    rw [hend _ rfl, List.append_nil] at p5
    conv => lhs; rw [e0, p0]
    congr 1
    conv => lhs; rw [p1]
    congr 1
    conv => lhs; rw [p2]
    congr 1
    conv => lhs; rw [p3]
    congr 1
    conv => lhs; rw [p4]
    congr 1⟩

/-- how far a parameter's data reach -/
theorem reach_at {H : Type} {ts : List TypeId} {ds : List (DataW H)} (h : (DataW.weightsEach P ts ds).all (· ≤ reachBytes) = true) {j : Nat} {t : TypeId} {d : DataW H} (ht : ts[j]? = some t) (hd : ds[j]? = some d) : ∀ n ∈ d.weights P t, n ≤ reachBytes := fun n hn => by
  have := List.all_eq_true.1 h _ (DataW.weights_mem_each ht hd n hn)
  simpa using this
end
end Go.Proofs.YtoddklfblcfoiaaDoor
