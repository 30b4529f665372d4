/-
  How what came in reads, whatever its type: integers, bools, strings, bytes, slices of anything, structs. No condition.
-/
import Derived.Test.YtoddklfblcfoiaaDoorOpen
import Derived.ChangeArms
set_option linter.unusedVariables false
namespace Go.Proofs.YtoddklfblcfoiaaDoor
open Go.RowKit

/-! ### what cells say -/
def VInt (k : IntKind) (w : World) (cs : List Value) (z : Int) : Prop := cs = [.int k z] ∧ (Lit.int k z).wf = true
def VByte (w : World) (cs : List Value) (x : UInt8) : Prop := cs = [.int .u8 (x.toNat : Int)]
def VBool (w : World) (cs : List Value) (x : Bool) : Prop := cs = [.bool x]
def VStr (w : World) (cs : List Value) (l : List UInt8) : Prop := cs = [.string (str l)] ∧ l.length ≤ maxLen
/-- a slice whose elements (of 'size' cells each) say the data l -/
def SlOf {α : Type} (V : World → List Value → α → Prop) (size : Nat) (w : World) (v : Value) (l : List α) : Prop :=
  ∃ a c, v = .slice a l.length c ∧ l.length ≤ c ∧ c ≤ maxLen ∧ (a = none → c = 0) ∧
    ∀ i (h : i < l.length), ∃ b off cs, a = some ⟨b, off, none⟩ ∧ cs.length = size ∧ V w cs l[i] ∧ ∀ j, j < size → w.cell? ⟨b, off + i * size + j, none⟩ = cs[j]?
def VSl {α : Type} (V : World → List Value → α → Prop) (size : Nat) (w : World) (cs : List Value) (l : List α) : Prop := ∃ v, cs = [v] ∧ SlOf V size w v l
/-- new blocks turn nothing of it -/
def Stab {α : Type} (V : World → List Value → α → Prop) : Prop := ∀ w w' cs d, Below w.heap.size w w' → V w cs d → V w' cs d
theorem stab_int (k : IntKind) : Stab (VInt k) := fun _ _ _ _ _ h => h
theorem stab_byte : Stab VByte := fun _ _ _ _ _ h => h
theorem stab_bool : Stab VBool := fun _ _ _ _ _ h => h
theorem stab_str : Stab VStr := fun _ _ _ _ _ h => h
theorem SlOf.below {α : Type} {V : World → List Value → α → Prop} {size : Nat} {w w' : World} {v : Value} {l : List α} (hV : Stab V) (h : SlOf V size w v l) (hb : Below w.heap.size w w') : SlOf V size w' v l := by
  obtain ⟨a, c, rfl, h1, h2, h3, h4⟩ := h
  refine ⟨a, c, rfl, h1, h2, h3, fun i hi => ?_⟩
  obtain ⟨b, off, cs, ha, hl, hv, hc⟩ := h4 i hi
  refine ⟨b, off, cs, ha, hl, hV _ _ _ _ hb hv, fun j hj => ?_⟩
  have hcj := hc j hj
  rw [List.getElem?_eq_getElem (by omega)] at hcj ⊢
  exact (hb.cell (p := ⟨b, off + i * size + j, none⟩) (World.block_lt_of_cell? w _ hcj)).trans hcj
theorem stab_sl {α : Type} {V : World → List Value → α → Prop} {size : Nat} (hV : Stab V) : Stab (VSl V size) := fun _ _ _ _ hb ⟨v, h1, h2⟩ => ⟨v, h1, h2.below hV hb⟩
theorem SlOf.form {α : Type} {V : World → List Value → α → Prop} {size : Nat} {w : World} {v : Value} {l : List α} (h : SlOf V size w v l) : ∃ a c, v = .slice a l.length c ∧ l.length ≤ c ∧ c ≤ 9223372036854775807 := by
  obtain ⟨a, c, rfl, h1, h2, _⟩ := h
  exact ⟨a, c, rfl, h1, by simpa [maxLen] using h2⟩
/-- element number i: where it lies, and what its cells are -/
theorem SlOf.at {α : Type} {V : World → List Value → α → Prop} {size : Nat} {w : World} {a : Option Addr} {n c : Nat} {l : List α} (h : SlOf V size w (.slice a n c) l) (i : Nat) (hi : i < l.length) :
    ∃ b off cs, a = some ⟨b, off, none⟩ ∧ cs.length = size ∧ V w cs l[i] ∧ ∀ j, j < size → w.cell? ⟨b, off + i * size + j, none⟩ = cs[j]? := by
  obtain ⟨a', c', he, h1, h2, h3, h4⟩ := h
  cases he
  exact h4 i hi
theorem SlOf.len {α : Type} {V : World → List Value → α → Prop} {size : Nat} {w : World} {a : Option Addr} {n c : Nat} {l : List α} (h : SlOf V size w (.slice a n c) l) : n = l.length ∧ n ≤ c ∧ c ≤ 9223372036854775807 := by
  obtain ⟨a', c', he, h1, h2, _⟩ := h
  cases he
  exact ⟨rfl, h1, by simpa [maxLen] using h2⟩
/-- bytes -/
theorem SlOf.bytes {w : World} {v : Value} {l : List UInt8} (h : SlOf VByte 1 w v l) : Sl w 1 v l.length (bvs l) := by
  obtain ⟨a, c, rfl, h1, h2, h3, h4⟩ := h
  refine ⟨by simp [bvs_length], a, c, rfl, h1, h2, h3, fun j u hu => ?_⟩
  have hj : j < l.length := by simpa [bvs_length] using (List.getElem?_eq_some_iff.1 hu).1
  obtain ⟨b, off, cs, ha, hl, hv, hc⟩ := h4 j hj
  have := hc 0 (by omega)
  rw [hv] at this
  refine ⟨b, off, ha, ?_⟩
  rw [Nat.mul_one, Nat.add_zero] at this
  rw [this]
  rw [bvs_get l j hj] at hu
  rw [← hu]
  simp [hj]
theorem SlOf.ints {w : World} {v : Value} {l : List Int} (h : SlOf (VInt .i64) 1 w v l) : Sl w 1 v l.length (ints l) := by
  obtain ⟨a, c, rfl, h1, h2, h3, h4⟩ := h
  refine ⟨by simp [ints_length], a, c, rfl, h1, h2, h3, fun j u hu => ?_⟩
  have hj : j < l.length := by simpa [ints_length] using (List.getElem?_eq_some_iff.1 hu).1
  obtain ⟨b, off, cs, ha, hl, hv, hc⟩ := h4 j hj
  have := hc 0 (by omega)
  rw [hv.1] at this
  refine ⟨b, off, ha, ?_⟩
  rw [Nat.mul_one, Nat.add_zero] at this
  rw [this]
  rw [ints_get l j hj] at hu
  rw [← hu]
  simp [hj]
theorem SlOf.bools {w : World} {v : Value} {l : List Bool} (h : SlOf VBool 1 w v l) : Sl w 1 v l.length (bos l) := by
  obtain ⟨a, c, rfl, h1, h2, h3, h4⟩ := h
  refine ⟨by simp [bos_length], a, c, rfl, h1, h2, h3, fun j u hu => ?_⟩
  have hj : j < l.length := by simpa [bos_length] using (List.getElem?_eq_some_iff.1 hu).1
  obtain ⟨b, off, cs, ha, hl, hv, hc⟩ := h4 j hj
  have := hc 0 (by omega)
  rw [hv] at this
  refine ⟨b, off, ha, ?_⟩
  rw [Nat.mul_one, Nat.add_zero] at this
  rw [this]
  rw [bos_get l j hj] at hu
  rw [← hu]
  simp [hj]

/-! ### opening -/
/-- what is read at type e says a datum, as V has it -/
def Opens {α : Type} (P : Program) (e : TypeId) (size : Nat) (V : World → List Value → α → Prop) : Prop :=
  P.cellsOf e = size ∧ ∀ (H : Type) (enc : TypeId × Value → H) (w : World) (base : Nat) (held : Bool) (fuel : Nat) (cs : List Value) (x : DataW H × List MemPlace), DataW.trod enc P w base (fun _ => true) held fuel e cs = some x → cs.length = size ∧ ∃ d, V w cs d
section
variable {P : Program} {e : TypeId}
theorem opens_int {k : IntKind} (he : P.underlying e = some (.int k)) (hc : P.cellsOf e = 1) : Opens P e 1 (VInt k) :=
  ⟨hc, fun H enc w base held fuel cs x h => by
    obtain ⟨n, rfl, _, hw⟩ := DataW.trod_int he h
    exact ⟨rfl, n, rfl, hw⟩⟩
theorem opens_byte (he : P.underlying e = some (.int .u8)) (hc : P.cellsOf e = 1) : Opens P e 1 VByte :=
  ⟨hc, fun H enc w base held fuel cs x h => by
    obtain ⟨n, rfl, _, hw⟩ := DataW.trod_int he h
    obtain ⟨s, hs, rfl⟩ := nat_u8 hw
    exact ⟨rfl, UInt8.ofNat s, by show _ = _; rw [UInt8.toNat_ofNat', Nat.mod_eq_of_lt (show s < 2 ^ 8 from hs)]⟩⟩
theorem opens_bool (he : P.underlying e = some .bool) (hc : P.cellsOf e = 1) : Opens P e 1 VBool :=
  ⟨hc, fun H enc w base held fuel cs x h => by
    obtain ⟨n, rfl, _⟩ := DataW.trod_bool he h
    exact ⟨rfl, n, rfl⟩⟩
theorem opens_str (he : P.underlying e = some .string) (hc : P.cellsOf e = 1) : Opens P e 1 VStr :=
  ⟨hc, fun H enc w base held fuel cs x h => by
    obtain ⟨s, rfl, _, hm⟩ := DataW.trod_string he h
    exact ⟨rfl, s.data.toList, by rw [str_data], by rw [Array.length_toList]; exact hm⟩⟩
theorem list_of {α : Type} {Q : Nat → α → Prop} : ∀ n : Nat, (∀ i, i < n → ∃ d, Q i d) → ∃ l : List α, l.length = n ∧ ∀ i (h : i < l.length), Q i l[i]
  | 0, _ => ⟨[], rfl, fun i h => by simp at h⟩
  | n + 1, h => by
    obtain ⟨l, hl, hq⟩ := list_of n fun i hi => h i (by omega)
    obtain ⟨d, hd⟩ := h n (by omega)
    refine ⟨l ++ [d], by simp [hl], fun i hi => ?_⟩
    simp at hi
    by_cases hin : i < l.length
    · rw [List.getElem_append_left hin]; exact hq i hin
    · rw [List.getElem_append_right (by omega)]
      obtain rfl : i = n := by omega
      simpa using hd
theorem top_sl {α : Type} {V : World → List Value → α → Prop} {size : Nat} {t : TypeId} (hO : Opens P e size V) (hs : 0 < size) (ht : P.underlying t = some (.slice e)) {H : Type} {enc : TypeId × Value → H} {w : World} {base : Nat} {held : Bool} {fuel : Nat} {v : Value} {x : DataW H × List MemPlace}
    (h : DataW.trod enc P w base (fun _ => true) held fuel t [v] = some x) : ∃ l, SlOf V size w v l := by
  rcases DataW.trod_slice ht h with ⟨hcs, _⟩ | ⟨a, len, cap, elems, rest, n, _, hcs, _, hb, hl, hm, hlen, hel, _⟩
  · cases hcs
    exact ⟨[], none, 0, rfl, Nat.le_refl _, by decide, fun _ => rfl, fun i hi => by simp at hi⟩
  · cases hcs
    have key : ∀ i, i < len → ∃ d, ∃ b off cs, (some a : Option Addr) = some ⟨b, off, none⟩ ∧ cs.length = size ∧ V w cs d ∧ ∀ j, j < size → w.cell? ⟨b, off + i * size + j, none⟩ = cs[j]? := by
      intro i hi
      have h1 := hel i hi
      rw [List.getElem?_eq_getElem (by omega)] at h1
      obtain ⟨cs, hcs, hx⟩ := Option.bind_eq_some_iff.1 h1
      obtain ⟨hlen2, d, hd⟩ := hO.2 _ _ _ _ _ _ _ _ hx
      obtain ⟨_, hcl, hcell⟩ := World.cells?_some hcs
      rw [hO.1] at hcell hcl
      obtain ⟨b, off, spot⟩ := a
      have hsp : spot = none := by
        have g1 := hel 0 (by omega)
        rw [List.getElem?_eq_getElem (by omega)] at g1
        obtain ⟨cs2, hcs2, hx2⟩ := Option.bind_eq_some_iff.1 g1
        obtain ⟨_, hcl2, hcell2⟩ := World.cells?_some hcs2
        rw [hO.1] at hcell2 hcl2
        have h0 := hcell2 0 hs
        rw [List.getElem?_eq_getElem (by omega), Nat.zero_mul] at h0
        exact World.cell?_spot h0
      subst hsp
      refine ⟨d, b, off, cs, rfl, hcl, hd, fun j hj => ?_⟩
      have := hcell j hj
      rw [add_eq, add_eq] at this
      exact this
    obtain ⟨l, hl1, hl2⟩ := list_of len key
    subst hl1
    exact ⟨l, some a, cap, rfl, hl, hm, by simp, hl2⟩
theorem opens_sl {α : Type} {V : World → List Value → α → Prop} {size : Nat} {t : TypeId} (hO : Opens P e size V) (hs : 0 < size) (ht : P.underlying t = some (.slice e)) (hc : P.cellsOf t = 1) : Opens P t 1 (VSl V size) :=
  ⟨hc, fun H enc w base held fuel cs x h => by
    have hv : ∃ v, cs = [v] := by
      rcases DataW.trod_slice ht h with ⟨hcs, _⟩ | ⟨a, len, cap, elems, rest, n, _, hcs, _⟩
      · exact ⟨_, hcs⟩
      · exact ⟨_, hcs⟩
    obtain ⟨v, rfl⟩ := hv
    obtain ⟨l, hl⟩ := top_sl hO hs ht h
    exact ⟨rfl, l, v, rfl, hl⟩⟩
theorem Opens.map {α β : Type} {V : World → List Value → α → Prop} {V' : World → List Value → β → Prop} {size : Nat} (h : Opens P e size V) (g : α → β) (hg : ∀ w cs d, V w cs d → V' w cs (g d)) : Opens P e size V' :=
  ⟨h.1, fun H enc w base held fuel cs x hx => by
    obtain ⟨h1, d, h2⟩ := h.2 _ _ _ _ _ _ _ _ hx
    exact ⟨h1, g d, hg _ _ _ h2⟩⟩
theorem field_of {fs : Array Field} (ht : P.underlying e = some (.struct fs)) {H : Type} {enc : TypeId × Value → H} {w : World} {base : Nat} {held : Bool} {fuel : Nat} {cs : List Value} {x : DataW H × List MemPlace} (h : DataW.trod enc P w base (fun _ => true) held fuel e cs = some x)
    (k : Nat) {f : Field} (hf : fs[k]? = some f) {α : Type} {V : World → List Value → α → Prop} {size : Nat} (hO : Opens P f.type size V) : ∃ d, V w ((cs.drop f.offset).take size) d := by
  obtain ⟨xs, n, rfl, _, hl, hxl, hx⟩ := DataW.trod_struct ht h
  have := hx k f hf
  have hk := (Array.getElem?_eq_some_iff.1 hf).1
  rw [List.getElem?_eq_getElem (by omega), hO.1] at this
  exact (hO.2 _ _ _ _ _ _ _ _ this).2
def VRec2 {α0 α1 : Type} (s0 s1 : Nat) (V0 : World → List Value → α0 → Prop) (V1 : World → List Value → α1 → Prop) (w : World) (cs : List Value) (d : α0 × α1) : Prop :=
  ∃ c0 c1, cs = c0 ++ (c1) ∧ c0.length = s0 ∧ c1.length = s1 ∧ V0 w c0 d.1 ∧ V1 w c1 d.2
theorem stab_rec2 {α0 α1 : Type} {s0 s1 : Nat} {V0 : World → List Value → α0 → Prop} {V1 : World → List Value → α1 → Prop} (h0 : Stab V0) (h1 : Stab V1) : Stab (VRec2 s0 s1 V0 V1) := by
  rintro w w' cs d hb ⟨c0, c1, hcs, l0, l1, v0, v1⟩
  exact ⟨c0, c1, hcs, l0, l1, h0 _ _ _ _ hb v0, h1 _ _ _ _ hb v1⟩
theorem opens_rec2 {α0 α1 : Type} {s0 s1 : Nat} {V0 : World → List Value → α0 → Prop} {V1 : World → List Value → α1 → Prop} {fs : Array Field} {f0 : Field} {f1 : Field} (ht : P.underlying e = some (.struct fs)) (hc : P.cellsOf e = s0 + s1) (hf0 : fs[0]? = some f0) (hf1 : fs[1]? = some f1) (ho0 : f0.offset = 0) (ho1 : f1.offset = s0) (hO0 : Opens P f0.type s0 V0) (hO1 : Opens P f1.type s1 V1) : Opens P e (s0 + s1) (VRec2 s0 s1 V0 V1) :=
  ⟨hc, fun H enc w base held fuel cs x h => by
    obtain ⟨xs, n, hn, _, hl, _, _⟩ := DataW.trod_struct ht h
    rw [hc] at hl
    obtain ⟨d0, v0⟩ := field_of ht h 0 hf0 hO0
    rw [ho0] at v0
    obtain ⟨d1, v1⟩ := field_of ht h 1 hf1 hO1
    rw [ho1] at v1
    refine ⟨hl, ⟨d0, d1⟩, (cs.drop (0)).take s0, (cs.drop (s0)).take s1, ?_, by simp; omega, by simp; omega, v0, v1⟩
    have sp : ∀ (k s : Nat), cs.drop k = (cs.drop k).take s ++ cs.drop (k + s) := fun k s => by rw [← List.drop_drop, List.take_append_drop]
    have hend : ∀ k, k = s0 + s1 → cs.drop k = [] := fun k hk => List.drop_eq_nil_of_le (by omega)
    have e0 : cs = cs.drop 0 := rfl
    have p0 : cs.drop (0) = (cs.drop (0)).take s0 ++ cs.drop (s0) := by have := sp (0) s0; rwa [Nat.zero_add] at this
    have p1 : cs.drop (s0) = (cs.drop (s0)).take s1 ++ cs.drop (s0 + s1) := by have := sp (s0) s1; exact this
    rw [hend _ rfl, List.append_nil] at p1
    conv => lhs; rw [e0, p0]
    congr 1⟩
def VRec3 {α0 α1 α2 : Type} (s0 s1 s2 : Nat) (V0 : World → List Value → α0 → Prop) (V1 : World → List Value → α1 → Prop) (V2 : World → List Value → α2 → Prop) (w : World) (cs : List Value) (d : α0 × α1 × α2) : Prop :=
  ∃ c0 c1 c2, cs = c0 ++ (c1 ++ (c2)) ∧ c0.length = s0 ∧ c1.length = s1 ∧ c2.length = s2 ∧ V0 w c0 d.1 ∧ V1 w c1 d.2.1 ∧ V2 w c2 d.2.2
theorem stab_rec3 {α0 α1 α2 : Type} {s0 s1 s2 : Nat} {V0 : World → List Value → α0 → Prop} {V1 : World → List Value → α1 → Prop} {V2 : World → List Value → α2 → Prop} (h0 : Stab V0) (h1 : Stab V1) (h2 : Stab V2) : Stab (VRec3 s0 s1 s2 V0 V1 V2) := by
  rintro w w' cs d hb ⟨c0, c1, c2, hcs, l0, l1, l2, v0, v1, v2⟩
  exact ⟨c0, c1, c2, hcs, l0, l1, l2, h0 _ _ _ _ hb v0, h1 _ _ _ _ hb v1, h2 _ _ _ _ hb v2⟩
theorem opens_rec3 {α0 α1 α2 : Type} {s0 s1 s2 : Nat} {V0 : World → List Value → α0 → Prop} {V1 : World → List Value → α1 → Prop} {V2 : World → List Value → α2 → Prop} {fs : Array Field} {f0 : Field} {f1 : Field} {f2 : Field} (ht : P.underlying e = some (.struct fs)) (hc : P.cellsOf e = s0 + s1 + s2) (hf0 : fs[0]? = some f0) (hf1 : fs[1]? = some f1) (hf2 : fs[2]? = some f2) (ho0 : f0.offset = 0) (ho1 : f1.offset = s0) (ho2 : f2.offset = s0 + s1) (hO0 : Opens P f0.type s0 V0) (hO1 : Opens P f1.type s1 V1) (hO2 : Opens P f2.type s2 V2) : Opens P e (s0 + s1 + s2) (VRec3 s0 s1 s2 V0 V1 V2) :=
  ⟨hc, fun H enc w base held fuel cs x h => by
    obtain ⟨xs, n, hn, _, hl, _, _⟩ := DataW.trod_struct ht h
    rw [hc] at hl
    obtain ⟨d0, v0⟩ := field_of ht h 0 hf0 hO0
    rw [ho0] at v0
    obtain ⟨d1, v1⟩ := field_of ht h 1 hf1 hO1
    rw [ho1] at v1
    obtain ⟨d2, v2⟩ := field_of ht h 2 hf2 hO2
    rw [ho2] at v2
    refine ⟨hl, ⟨d0, d1, d2⟩, (cs.drop (0)).take s0, (cs.drop (s0)).take s1, (cs.drop (s0 + s1)).take s2, ?_, by simp; omega, by simp; omega, by simp; omega, v0, v1, v2⟩
    have sp : ∀ (k s : Nat), cs.drop k = (cs.drop k).take s ++ cs.drop (k + s) := fun k s => by rw [← List.drop_drop, List.take_append_drop]
    have hend : ∀ k, k = s0 + s1 + s2 → cs.drop k = [] := fun k hk => List.drop_eq_nil_of_le (by omega)
    have e0 : cs = cs.drop 0 := rfl
    have p0 : cs.drop (0) = (cs.drop (0)).take s0 ++ cs.drop (s0) := by have := sp (0) s0; rwa [Nat.zero_add] at this
    have p1 : cs.drop (s0) = (cs.drop (s0)).take s1 ++ cs.drop (s0 + s1) := by have := sp (s0) s1; exact this
    have p2 : cs.drop (s0 + s1) = (cs.drop (s0 + s1)).take s2 ++ cs.drop (s0 + s1 + s2) := by have := sp (s0 + s1) s2; exact this
    rw [hend _ rfl, List.append_nil] at p2
    conv => lhs; rw [e0, p0]
    congr 1
    conv => lhs; rw [p1]
    congr 1⟩
def VRec4 {α0 α1 α2 α3 : Type} (s0 s1 s2 s3 : Nat) (V0 : World → List Value → α0 → Prop) (V1 : World → List Value → α1 → Prop) (V2 : World → List Value → α2 → Prop) (V3 : World → List Value → α3 → Prop) (w : World) (cs : List Value) (d : α0 × α1 × α2 × α3) : Prop :=
  ∃ c0 c1 c2 c3, cs = c0 ++ (c1 ++ (c2 ++ (c3))) ∧ c0.length = s0 ∧ c1.length = s1 ∧ c2.length = s2 ∧ c3.length = s3 ∧ V0 w c0 d.1 ∧ V1 w c1 d.2.1 ∧ V2 w c2 d.2.2.1 ∧ V3 w c3 d.2.2.2
theorem stab_rec4 {α0 α1 α2 α3 : Type} {s0 s1 s2 s3 : Nat} {V0 : World → List Value → α0 → Prop} {V1 : World → List Value → α1 → Prop} {V2 : World → List Value → α2 → Prop} {V3 : World → List Value → α3 → Prop} (h0 : Stab V0) (h1 : Stab V1) (h2 : Stab V2) (h3 : Stab V3) : Stab (VRec4 s0 s1 s2 s3 V0 V1 V2 V3) := by
  rintro w w' cs d hb ⟨c0, c1, c2, c3, hcs, l0, l1, l2, l3, v0, v1, v2, v3⟩
  exact ⟨c0, c1, c2, c3, hcs, l0, l1, l2, l3, h0 _ _ _ _ hb v0, h1 _ _ _ _ hb v1, h2 _ _ _ _ hb v2, h3 _ _ _ _ hb v3⟩
theorem opens_rec4 {α0 α1 α2 α3 : Type} {s0 s1 s2 s3 : Nat} {V0 : World → List Value → α0 → Prop} {V1 : World → List Value → α1 → Prop} {V2 : World → List Value → α2 → Prop} {V3 : World → List Value → α3 → Prop} {fs : Array Field} {f0 : Field} {f1 : Field} {f2 : Field} {f3 : Field} (ht : P.underlying e = some (.struct fs)) (hc : P.cellsOf e = s0 + s1 + s2 + s3) (hf0 : fs[0]? = some f0) (hf1 : fs[1]? = some f1) (hf2 : fs[2]? = some f2) (hf3 : fs[3]? = some f3) (ho0 : f0.offset = 0) (ho1 : f1.offset = s0) (ho2 : f2.offset = s0 + s1) (ho3 : f3.offset = s0 + s1 + s2) (hO0 : Opens P f0.type s0 V0) (hO1 : Opens P f1.type s1 V1) (hO2 : Opens P f2.type s2 V2) (hO3 : Opens P f3.type s3 V3) : Opens P e (s0 + s1 + s2 + s3) (VRec4 s0 s1 s2 s3 V0 V1 V2 V3) :=
  ⟨hc, fun H enc w base held fuel cs x h => by
    obtain ⟨xs, n, hn, _, hl, _, _⟩ := DataW.trod_struct ht h
    rw [hc] at hl
    obtain ⟨d0, v0⟩ := field_of ht h 0 hf0 hO0
    rw [ho0] at v0
    obtain ⟨d1, v1⟩ := field_of ht h 1 hf1 hO1
    rw [ho1] at v1
    obtain ⟨d2, v2⟩ := field_of ht h 2 hf2 hO2
    rw [ho2] at v2
    obtain ⟨d3, v3⟩ := field_of ht h 3 hf3 hO3
    rw [ho3] at v3
    refine ⟨hl, ⟨d0, d1, d2, d3⟩, (cs.drop (0)).take s0, (cs.drop (s0)).take s1, (cs.drop (s0 + s1)).take s2, (cs.drop (s0 + s1 + s2)).take s3, ?_, by simp; omega, by simp; omega, by simp; omega, by simp; omega, v0, v1, v2, v3⟩
    have sp : ∀ (k s : Nat), cs.drop k = (cs.drop k).take s ++ cs.drop (k + s) := fun k s => by rw [← List.drop_drop, List.take_append_drop]
    have hend : ∀ k, k = s0 + s1 + s2 + s3 → cs.drop k = [] := fun k hk => List.drop_eq_nil_of_le (by omega)
    have e0 : cs = cs.drop 0 := rfl
    have p0 : cs.drop (0) = (cs.drop (0)).take s0 ++ cs.drop (s0) := by have := sp (0) s0; rwa [Nat.zero_add] at this
    have p1 : cs.drop (s0) = (cs.drop (s0)).take s1 ++ cs.drop (s0 + s1) := by have := sp (s0) s1; exact this
    have p2 : cs.drop (s0 + s1) = (cs.drop (s0 + s1)).take s2 ++ cs.drop (s0 + s1 + s2) := by have := sp (s0 + s1) s2; exact this
    have p3 : cs.drop (s0 + s1 + s2) = (cs.drop (s0 + s1 + s2)).take s3 ++ cs.drop (s0 + s1 + s2 + s3) := by have := sp (s0 + s1 + s2) s3; exact this
    rw [hend _ rfl, List.append_nil] at p3
    conv => lhs; rw [e0, p0]
    congr 1
    conv => lhs; rw [p1]
    congr 1
    conv => lhs; rw [p2]
    congr 1⟩
def VRec5 {α0 α1 α2 α3 α4 : Type} (s0 s1 s2 s3 s4 : Nat) (V0 : World → List Value → α0 → Prop) (V1 : World → List Value → α1 → Prop) (V2 : World → List Value → α2 → Prop) (V3 : World → List Value → α3 → Prop) (V4 : World → List Value → α4 → Prop) (w : World) (cs : List Value) (d : α0 × α1 × α2 × α3 × α4) : Prop :=
  ∃ c0 c1 c2 c3 c4, cs = c0 ++ (c1 ++ (c2 ++ (c3 ++ (c4)))) ∧ c0.length = s0 ∧ c1.length = s1 ∧ c2.length = s2 ∧ c3.length = s3 ∧ c4.length = s4 ∧ V0 w c0 d.1 ∧ V1 w c1 d.2.1 ∧ V2 w c2 d.2.2.1 ∧ V3 w c3 d.2.2.2.1 ∧ V4 w c4 d.2.2.2.2
theorem stab_rec5 {α0 α1 α2 α3 α4 : Type} {s0 s1 s2 s3 s4 : Nat} {V0 : World → List Value → α0 → Prop} {V1 : World → List Value → α1 → Prop} {V2 : World → List Value → α2 → Prop} {V3 : World → List Value → α3 → Prop} {V4 : World → List Value → α4 → Prop} (h0 : Stab V0) (h1 : Stab V1) (h2 : Stab V2) (h3 : Stab V3) (h4 : Stab V4) : Stab (VRec5 s0 s1 s2 s3 s4 V0 V1 V2 V3 V4) := by
  rintro w w' cs d hb ⟨c0, c1, c2, c3, c4, hcs, l0, l1, l2, l3, l4, v0, v1, v2, v3, v4⟩
  exact ⟨c0, c1, c2, c3, c4, hcs, l0, l1, l2, l3, l4, h0 _ _ _ _ hb v0, h1 _ _ _ _ hb v1, h2 _ _ _ _ hb v2, h3 _ _ _ _ hb v3, h4 _ _ _ _ hb v4⟩
theorem opens_rec5 {α0 α1 α2 α3 α4 : Type} {s0 s1 s2 s3 s4 : Nat} {V0 : World → List Value → α0 → Prop} {V1 : World → List Value → α1 → Prop} {V2 : World → List Value → α2 → Prop} {V3 : World → List Value → α3 → Prop} {V4 : World → List Value → α4 → Prop} {fs : Array Field} {f0 : Field} {f1 : Field} {f2 : Field} {f3 : Field} {f4 : Field} (ht : P.underlying e = some (.struct fs)) (hc : P.cellsOf e = s0 + s1 + s2 + s3 + s4) (hf0 : fs[0]? = some f0) (hf1 : fs[1]? = some f1) (hf2 : fs[2]? = some f2) (hf3 : fs[3]? = some f3) (hf4 : fs[4]? = some f4) (ho0 : f0.offset = 0) (ho1 : f1.offset = s0) (ho2 : f2.offset = s0 + s1) (ho3 : f3.offset = s0 + s1 + s2) (ho4 : f4.offset = s0 + s1 + s2 + s3) (hO0 : Opens P f0.type s0 V0) (hO1 : Opens P f1.type s1 V1) (hO2 : Opens P f2.type s2 V2) (hO3 : Opens P f3.type s3 V3) (hO4 : Opens P f4.type s4 V4) : Opens P e (s0 + s1 + s2 + s3 + s4) (VRec5 s0 s1 s2 s3 s4 V0 V1 V2 V3 V4) :=
  ⟨hc, fun H enc w base held fuel cs x h => by
    obtain ⟨xs, n, hn, _, hl, _, _⟩ := DataW.trod_struct ht h
    rw [hc] at hl
    obtain ⟨d0, v0⟩ := field_of ht h 0 hf0 hO0
    rw [ho0] at v0
    obtain ⟨d1, v1⟩ := field_of ht h 1 hf1 hO1
    rw [ho1] at v1
    obtain ⟨d2, v2⟩ := field_of ht h 2 hf2 hO2
    rw [ho2] at v2
    obtain ⟨d3, v3⟩ := field_of ht h 3 hf3 hO3
    rw [ho3] at v3
    obtain ⟨d4, v4⟩ := field_of ht h 4 hf4 hO4
    rw [ho4] at v4
    refine ⟨hl, ⟨d0, d1, d2, d3, d4⟩, (cs.drop (0)).take s0, (cs.drop (s0)).take s1, (cs.drop (s0 + s1)).take s2, (cs.drop (s0 + s1 + s2)).take s3, (cs.drop (s0 + s1 + s2 + s3)).take s4, ?_, by simp; omega, by simp; omega, by simp; omega, by simp; omega, by simp; omega, v0, v1, v2, v3, v4⟩
    have sp : ∀ (k s : Nat), cs.drop k = (cs.drop k).take s ++ cs.drop (k + s) := fun k s => by rw [← List.drop_drop, List.take_append_drop]
    have hend : ∀ k, k = s0 + s1 + s2 + s3 + s4 → cs.drop k = [] := fun k hk => List.drop_eq_nil_of_le (by omega)
    have e0 : cs = cs.drop 0 := rfl
    have p0 : cs.drop (0) = (cs.drop (0)).take s0 ++ cs.drop (s0) := by have := sp (0) s0; rwa [Nat.zero_add] at this
    have p1 : cs.drop (s0) = (cs.drop (s0)).take s1 ++ cs.drop (s0 + s1) := by have := sp (s0) s1; exact this
    have p2 : cs.drop (s0 + s1) = (cs.drop (s0 + s1)).take s2 ++ cs.drop (s0 + s1 + s2) := by have := sp (s0 + s1) s2; exact this
    have p3 : cs.drop (s0 + s1 + s2) = (cs.drop (s0 + s1 + s2)).take s3 ++ cs.drop (s0 + s1 + s2 + s3) := by have := sp (s0 + s1 + s2) s3; exact this
    have p4 : cs.drop (s0 + s1 + s2 + s3) = (cs.drop (s0 + s1 + s2 + s3)).take s4 ++ cs.drop (s0 + s1 + s2 + s3 + s4) := by have := sp (s0 + s1 + s2 + s3) s4; exact this
    rw [hend _ rfl, List.append_nil] at p4
    conv => lhs; rw [e0, p0]
    congr 1
    conv => lhs; rw [p1]
    congr 1
    conv => lhs; rw [p2]
    congr 1
    conv => lhs; rw [p3]
    congr 1⟩
def VRec6 {α0 α1 α2 α3 α4 α5 : Type} (s0 s1 s2 s3 s4 s5 : Nat) (V0 : World → List Value → α0 → Prop) (V1 : World → List Value → α1 → Prop) (V2 : World → List Value → α2 → Prop) (V3 : World → List Value → α3 → Prop) (V4 : World → List Value → α4 → Prop) (V5 : World → List Value → α5 → Prop) (w : World) (cs : List Value) (d : α0 × α1 × α2 × α3 × α4 × α5) : Prop :=
  ∃ c0 c1 c2 c3 c4 c5, cs = c0 ++ (c1 ++ (c2 ++ (c3 ++ (c4 ++ (c5))))) ∧ c0.length = s0 ∧ c1.length = s1 ∧ c2.length = s2 ∧ c3.length = s3 ∧ c4.length = s4 ∧ c5.length = s5 ∧ V0 w c0 d.1 ∧ V1 w c1 d.2.1 ∧ V2 w c2 d.2.2.1 ∧ V3 w c3 d.2.2.2.1 ∧ V4 w c4 d.2.2.2.2.1 ∧ V5 w c5 d.2.2.2.2.2
theorem stab_rec6 {α0 α1 α2 α3 α4 α5 : Type} {s0 s1 s2 s3 s4 s5 : Nat} {V0 : World → List Value → α0 → Prop} {V1 : World → List Value → α1 → Prop} {V2 : World → List Value → α2 → Prop} {V3 : World → List Value → α3 → Prop} {V4 : World → List Value → α4 → Prop} {V5 : World → List Value → α5 → Prop} (h0 : Stab V0) (h1 : Stab V1) (h2 : Stab V2) (h3 : Stab V3) (h4 : Stab V4) (h5 : Stab V5) : Stab (VRec6 s0 s1 s2 s3 s4 s5 V0 V1 V2 V3 V4 V5) := by
  rintro w w' cs d hb ⟨c0, c1, c2, c3, c4, c5, hcs, l0, l1, l2, l3, l4, l5, v0, v1, v2, v3, v4, v5⟩
  exact ⟨c0, c1, c2, c3, c4, c5, hcs, l0, l1, l2, l3, l4, l5, h0 _ _ _ _ hb v0, h1 _ _ _ _ hb v1, h2 _ _ _ _ hb v2, h3 _ _ _ _ hb v3, h4 _ _ _ _ hb v4, h5 _ _ _ _ hb v5⟩
theorem opens_rec6 {α0 α1 α2 α3 α4 α5 : Type} {s0 s1 s2 s3 s4 s5 : Nat} {V0 : World → List Value → α0 → Prop} {V1 : World → List Value → α1 → Prop} {V2 : World → List Value → α2 → Prop} {V3 : World → List Value → α3 → Prop} {V4 : World → List Value → α4 → Prop} {V5 : World → List Value → α5 → Prop} {fs : Array Field} {f0 : Field} {f1 : Field} {f2 : Field} {f3 : Field} {f4 : Field} {f5 : Field} (ht : P.underlying e = some (.struct fs)) (hc : P.cellsOf e = s0 + s1 + s2 + s3 + s4 + s5) (hf0 : fs[0]? = some f0) (hf1 : fs[1]? = some f1) (hf2 : fs[2]? = some f2) (hf3 : fs[3]? = some f3) (hf4 : fs[4]? = some f4) (hf5 : fs[5]? = some f5) (ho0 : f0.offset = 0) (ho1 : f1.offset = s0) (ho2 : f2.offset = s0 + s1) (ho3 : f3.offset = s0 + s1 + s2) (ho4 : f4.offset = s0 + s1 + s2 + s3) (ho5 : f5.offset = s0 + s1 + s2 + s3 + s4) (hO0 : Opens P f0.type s0 V0) (hO1 : Opens P f1.type s1 V1) (hO2 : Opens P f2.type s2 V2) (hO3 : Opens P f3.type s3 V3) (hO4 : Opens P f4.type s4 V4) (hO5 : Opens P f5.type s5 V5) : Opens P e (s0 + s1 + s2 + s3 + s4 + s5) (VRec6 s0 s1 s2 s3 s4 s5 V0 V1 V2 V3 V4 V5) :=
  ⟨hc, fun H enc w base held fuel cs x h => by
    obtain ⟨xs, n, hn, _, hl, _, _⟩ := DataW.trod_struct ht h
    rw [hc] at hl
    obtain ⟨d0, v0⟩ := field_of ht h 0 hf0 hO0
    rw [ho0] at v0
    obtain ⟨d1, v1⟩ := field_of ht h 1 hf1 hO1
    rw [ho1] at v1
    obtain ⟨d2, v2⟩ := field_of ht h 2 hf2 hO2
    rw [ho2] at v2
    obtain ⟨d3, v3⟩ := field_of ht h 3 hf3 hO3
    rw [ho3] at v3
    obtain ⟨d4, v4⟩ := field_of ht h 4 hf4 hO4
    rw [ho4] at v4
    obtain ⟨d5, v5⟩ := field_of ht h 5 hf5 hO5
    rw [ho5] at v5
    refine ⟨hl, ⟨d0, d1, d2, d3, d4, d5⟩, (cs.drop (0)).take s0, (cs.drop (s0)).take s1, (cs.drop (s0 + s1)).take s2, (cs.drop (s0 + s1 + s2)).take s3, (cs.drop (s0 + s1 + s2 + s3)).take s4, (cs.drop (s0 + s1 + s2 + s3 + s4)).take s5, ?_, by simp; omega, by simp; omega, by simp; omega, by simp; omega, by simp; omega, by simp; omega, v0, v1, v2, v3, v4, v5⟩
    have sp : ∀ (k s : Nat), cs.drop k = (cs.drop k).take s ++ cs.drop (k + s) := fun k s => by rw [← List.drop_drop, List.take_append_drop]
    have hend : ∀ k, k = s0 + s1 + s2 + s3 + s4 + s5 → cs.drop k = [] := fun k hk => List.drop_eq_nil_of_le (by omega)
    have e0 : cs = cs.drop 0 := rfl
    have p0 : cs.drop (0) = (cs.drop (0)).take s0 ++ cs.drop (s0) := by have := sp (0) s0; rwa [Nat.zero_add] at this
    have p1 : cs.drop (s0) = (cs.drop (s0)).take s1 ++ cs.drop (s0 + s1) := by have := sp (s0) s1; exact this
    have p2 : cs.drop (s0 + s1) = (cs.drop (s0 + s1)).take s2 ++ cs.drop (s0 + s1 + s2) := by have := sp (s0 + s1) s2; exact this
    have p3 : cs.drop (s0 + s1 + s2) = (cs.drop (s0 + s1 + s2)).take s3 ++ cs.drop (s0 + s1 + s2 + s3) := by have := sp (s0 + s1 + s2) s3; exact this
    have p4 : cs.drop (s0 + s1 + s2 + s3) = (cs.drop (s0 + s1 + s2 + s3)).take s4 ++ cs.drop (s0 + s1 + s2 + s3 + s4) := by have := sp (s0 + s1 + s2 + s3) s4; exact this
    have p5 : cs.drop (s0 + s1 + s2 + s3 + s4) = (cs.drop (s0 + s1 + s2 + s3 + s4)).take s5 ++ cs.drop (s0 + s1 + s2 + s3 + s4 + s5) := by have := sp (s0 + s1 + s2 + s3 + s4) s5; exact this
    rw [hend _ rfl, List.append_nil] at p5
    conv => lhs; rw [e0, p0]
    congr 1
    conv => lhs; rw [p1]
    congr 1
    conv => lhs; rw [p2]
    congr 1
    conv => lhs; rw [p3]
    congr 1
    conv => lhs; rw [p4]
    congr 1⟩
def VRec7 {α0 α1 α2 α3 α4 α5 α6 : Type} (s0 s1 s2 s3 s4 s5 s6 : Nat) (V0 : World → List Value → α0 → Prop) (V1 : World → List Value → α1 → Prop) (V2 : World → List Value → α2 → Prop) (V3 : World → List Value → α3 → Prop) (V4 : World → List Value → α4 → Prop) (V5 : World → List Value → α5 → Prop) (V6 : World → List Value → α6 → Prop) (w : World) (cs : List Value) (d : α0 × α1 × α2 × α3 × α4 × α5 × α6) : Prop :=
  ∃ c0 c1 c2 c3 c4 c5 c6, cs = c0 ++ (c1 ++ (c2 ++ (c3 ++ (c4 ++ (c5 ++ (c6)))))) ∧ c0.length = s0 ∧ c1.length = s1 ∧ c2.length = s2 ∧ c3.length = s3 ∧ c4.length = s4 ∧ c5.length = s5 ∧ c6.length = s6 ∧ V0 w c0 d.1 ∧ V1 w c1 d.2.1 ∧ V2 w c2 d.2.2.1 ∧ V3 w c3 d.2.2.2.1 ∧ V4 w c4 d.2.2.2.2.1 ∧ V5 w c5 d.2.2.2.2.2.1 ∧ V6 w c6 d.2.2.2.2.2.2
theorem stab_rec7 {α0 α1 α2 α3 α4 α5 α6 : Type} {s0 s1 s2 s3 s4 s5 s6 : Nat} {V0 : World → List Value → α0 → Prop} {V1 : World → List Value → α1 → Prop} {V2 : World → List Value → α2 → Prop} {V3 : World → List Value → α3 → Prop} {V4 : World → List Value → α4 → Prop} {V5 : World → List Value → α5 → Prop} {V6 : World → List Value → α6 → Prop} (h0 : Stab V0) (h1 : Stab V1) (h2 : Stab V2) (h3 : Stab V3) (h4 : Stab V4) (h5 : Stab V5) (h6 : Stab V6) : Stab (VRec7 s0 s1 s2 s3 s4 s5 s6 V0 V1 V2 V3 V4 V5 V6) := by
  rintro w w' cs d hb ⟨c0, c1, c2, c3, c4, c5, c6, hcs, l0, l1, l2, l3, l4, l5, l6, v0, v1, v2, v3, v4, v5, v6⟩
  exact ⟨c0, c1, c2, c3, c4, c5, c6, hcs, l0, l1, l2, l3, l4, l5, l6, h0 _ _ _ _ hb v0, h1 _ _ _ _ hb v1, h2 _ _ _ _ hb v2, h3 _ _ _ _ hb v3, h4 _ _ _ _ hb v4, h5 _ _ _ _ hb v5, h6 _ _ _ _ hb v6⟩
theorem opens_rec7 {α0 α1 α2 α3 α4 α5 α6 : Type} {s0 s1 s2 s3 s4 s5 s6 : Nat} {V0 : World → List Value → α0 → Prop} {V1 : World → List Value → α1 → Prop} {V2 : World → List Value → α2 → Prop} {V3 : World → List Value → α3 → Prop} {V4 : World → List Value → α4 → Prop} {V5 : World → List Value → α5 → Prop} {V6 : World → List Value → α6 → Prop} {fs : Array Field} {f0 : Field} {f1 : Field} {f2 : Field} {f3 : Field} {f4 : Field} {f5 : Field} {f6 : Field} (ht : P.underlying e = some (.struct fs)) (hc : P.cellsOf e = s0 + s1 + s2 + s3 + s4 + s5 + s6) (hf0 : fs[0]? = some f0) (hf1 : fs[1]? = some f1) (hf2 : fs[2]? = some f2) (hf3 : fs[3]? = some f3) (hf4 : fs[4]? = some f4) (hf5 : fs[5]? = some f5) (hf6 : fs[6]? = some f6) (ho0 : f0.offset = 0) (ho1 : f1.offset = s0) (ho2 : f2.offset = s0 + s1) (ho3 : f3.offset = s0 + s1 + s2) (ho4 : f4.offset = s0 + s1 + s2 + s3) (ho5 : f5.offset = s0 + s1 + s2 + s3 + s4) (ho6 : f6.offset = s0 + s1 + s2 + s3 + s4 + s5) (hO0 : Opens P f0.type s0 V0) (hO1 : Opens P f1.type s1 V1) (hO2 : Opens P f2.type s2 V2) (hO3 : Opens P f3.type s3 V3) (hO4 : Opens P f4.type s4 V4) (hO5 : Opens P f5.type s5 V5) (hO6 : Opens P f6.type s6 V6) : Opens P e (s0 + s1 + s2 + s3 + s4 + s5 + s6) (VRec7 s0 s1 s2 s3 s4 s5 s6 V0 V1 V2 V3 V4 V5 V6) :=
  ⟨hc, fun H enc w base held fuel cs x h => by
    obtain ⟨xs, n, hn, _, hl, _, _⟩ := DataW.trod_struct ht h
    rw [hc] at hl
    obtain ⟨d0, v0⟩ := field_of ht h 0 hf0 hO0
    rw [ho0] at v0
    obtain ⟨d1, v1⟩ := field_of ht h 1 hf1 hO1
    rw [ho1] at v1
    obtain ⟨d2, v2⟩ := field_of ht h 2 hf2 hO2
    rw [ho2] at v2
    obtain ⟨d3, v3⟩ := field_of ht h 3 hf3 hO3
    rw [ho3] at v3
    obtain ⟨d4, v4⟩ := field_of ht h 4 hf4 hO4
    rw [ho4] at v4
    obtain ⟨d5, v5⟩ := field_of ht h 5 hf5 hO5
    rw [ho5] at v5
    obtain ⟨d6, v6⟩ := field_of ht h 6 hf6 hO6
    rw [ho6] at v6
    refine ⟨hl, ⟨d0, d1, d2, d3, d4, d5, d6⟩, (cs.drop (0)).take s0, (cs.drop (s0)).take s1, (cs.drop (s0 + s1)).take s2, (cs.drop (s0 + s1 + s2)).take s3, (cs.drop (s0 + s1 + s2 + s3)).take s4, (cs.drop (s0 + s1 + s2 + s3 + s4)).take s5, (cs.drop (s0 + s1 + s2 + s3 + s4 + s5)).take s6, ?_, by simp; omega, by simp; omega, by simp; omega, by simp; omega, by simp; omega, by simp; omega, by simp; omega, v0, v1, v2, v3, v4, v5, v6⟩
    have sp : ∀ (k s : Nat), cs.drop k = (cs.drop k).take s ++ cs.drop (k + s) := fun k s => by rw [← List.drop_drop, List.take_append_drop]
    have hend : ∀ k, k = s0 + s1 + s2 + s3 + s4 + s5 + s6 → cs.drop k = [] := fun k hk => List.drop_eq_nil_of_le (by omega)
    have e0 : cs = cs.drop 0 := rfl
    have p0 : cs.drop (0) = (cs.drop (0)).take s0 ++ cs.drop (s0) := by have := sp (0) s0; rwa [Nat.zero_add] at this
    have p1 : cs.drop (s0) = (cs.drop (s0)).take s1 ++ cs.drop (s0 + s1) := by have := sp (s0) s1; exact this
    have p2 : cs.drop (s0 + s1) = (cs.drop (s0 + s1)).take s2 ++ cs.drop (s0 + s1 + s2) := by have := sp (s0 + s1) s2; exact this
    have p3 : cs.drop (s0 + s1 + s2) = (cs.drop (s0 + s1 + s2)).take s3 ++ cs.drop (s0 + s1 + s2 + s3) := by have := sp (s0 + s1 + s2) s3; exact this
    have p4 : cs.drop (s0 + s1 + s2 + s3) = (cs.drop (s0 + s1 + s2 + s3)).take s4 ++ cs.drop (s0 + s1 + s2 + s3 + s4) := by have := sp (s0 + s1 + s2 + s3) s4; exact this
    have p5 : cs.drop (s0 + s1 + s2 + s3 + s4) = (cs.drop (s0 + s1 + s2 + s3 + s4)).take s5 ++ cs.drop (s0 + s1 + s2 + s3 + s4 + s5) := by have := sp (s0 + s1 + s2 + s3 + s4) s5; exact this
    have p6 : cs.drop (s0 + s1 + s2 + s3 + s4 + s5) = (cs.drop (s0 + s1 + s2 + s3 + s4 + s5)).take s6 ++ cs.drop (s0 + s1 + s2 + s3 + s4 + s5 + s6) := by have := sp (s0 + s1 + s2 + s3 + s4 + s5) s6; exact this
    rw [hend _ rfl, List.append_nil] at p6
    conv => lhs; rw [e0, p0]
    congr 1
    conv => lhs; rw [p1]
    congr 1
    conv => lhs; rw [p2]
    congr 1
    conv => lhs; rw [p3]
    congr 1
    conv => lhs; rw [p4]
    congr 1
    conv => lhs; rw [p5]
    congr 1⟩
end
end Go.Proofs.YtoddklfblcfoiaaDoor
