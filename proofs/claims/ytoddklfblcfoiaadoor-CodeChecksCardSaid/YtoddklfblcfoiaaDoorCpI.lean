/-
  A code that came in, as it reads. Conditions: within a machine's reach.
-/
import Derived.Test.YtoddklfblcfoiaaDoorCpH
import Derived.Test.YtoddklfblcfoiaaDoorOpenZ
namespace Go.Proofs.YtoddklfblcfoiaaDoor
open Go Go.RowKit
set_option linter.unusedVariables false
set_option linter.unusedSimpArgs false
set_option maxRecDepth 100000

theorem opensZ_rec5 {P : Program} {e : TypeId} {α0 α1 α2 α3 α4 : Type} {s0 s1 s2 s3 s4 : Nat} {V0 : World → List Value → α0 → Prop} {V1 : World → List Value → α1 → Prop} {V2 : World → List Value → α2 → Prop} {V3 : World → List Value → α3 → Prop} {V4 : World → List Value → α4 → Prop} {fs : Array Field} {f0 : Field} {f1 : Field} {f2 : Field} {f3 : Field} {f4 : Field} (ht : P.underlying e = some (.struct fs)) (hc : P.cellsOf e = s0 + s1 + s2 + s3 + s4) (hf0 : fs[0]? = some f0) (hf1 : fs[1]? = some f1) (hf2 : fs[2]? = some f2) (hf3 : fs[3]? = some f3) (hf4 : fs[4]? = some f4) (ho0 : f0.offset = 0) (ho1 : f1.offset = s0) (ho2 : f2.offset = s0 + s1) (ho3 : f3.offset = s0 + s1 + s2) (ho4 : f4.offset = s0 + s1 + s2 + s3) (hO0 : OpensZ P f0.type s0 V0) (hO1 : OpensZ P f1.type s1 V1) (hO2 : OpensZ P f2.type s2 V2) (hO3 : OpensZ P f3.type s3 V3) (hO4 : OpensZ P f4.type s4 V4) : OpensZ P e (s0 + s1 + s2 + s3 + s4) (VRec5 s0 s1 s2 s3 s4 V0 V1 V2 V3 V4) :=
  ⟨hc, fun H enc w base held fuel cs x h hz => by
    obtain ⟨xs, n, hn, _, hl, _, _⟩ := DataW.trod_struct ht h
    rw [hc] at hl
    obtain ⟨d0, v0⟩ := fieldZ_of ht h hz 0 hf0 hO0
    rw [ho0] at v0
    obtain ⟨d1, v1⟩ := fieldZ_of ht h hz 1 hf1 hO1
    rw [ho1] at v1
    obtain ⟨d2, v2⟩ := fieldZ_of ht h hz 2 hf2 hO2
    rw [ho2] at v2
    obtain ⟨d3, v3⟩ := fieldZ_of ht h hz 3 hf3 hO3
    rw [ho3] at v3
    obtain ⟨d4, v4⟩ := fieldZ_of ht h hz 4 hf4 hO4
    rw [ho4] at v4
    refine ⟨hl, ⟨d0, d1, d2, d3, d4⟩, (cs.drop (0)).take s0, (cs.drop (s0)).take s1, (cs.drop (s0 + s1)).take s2, (cs.drop (s0 + s1 + s2)).take s3, (cs.drop (s0 + s1 + s2 + s3)).take s4, ?_, by simp; omega, by simp; omega, by simp; omega, by simp; omega, by simp; omega, v0, v1, v2, v3, v4⟩
    have sp : ∀ (k s : Nat), cs.drop k = (cs.drop k).take s ++ cs.drop (k + s) := fun k s => by rw [← List.drop_drop, List.take_append_drop]
    have hend : ∀ k, k = s0 + s1 + s2 + s3 + s4 → cs.drop k = [] := fun k hk => List.drop_eq_nil_of_le (by omega)
    have e0 : cs = cs.drop 0 := rfl
    have p0 : cs.drop (0) = (cs.drop (0)).take s0 ++ cs.drop (s0) := by have := sp (0) s0; rwa [Nat.zero_add] at this
    have p1 : cs.drop (s0) = (cs.drop (s0)).take s1 ++ cs.drop (s0 + s1) := by have := sp (s0) s1; exact this
    have p2 : cs.drop (s0 + s1) = (cs.drop (s0 + s1)).take s2 ++ cs.drop (s0 + s1 + s2) := by have := sp (s0 + s1) s2; exact this
    have p3 : cs.drop (s0 + s1 + s2) = (cs.drop (s0 + s1 + s2)).take s3 ++ cs.drop (s0 + s1 + s2 + s3) := by have := sp (s0 + s1 + s2) s3; exact this
    have p4 : cs.drop (s0 + s1 + s2 + s3) = (cs.drop (s0 + s1 + s2 + s3)).take s4 ++ cs.drop (s0 + s1 + s2 + s3 + s4) := by have := sp (s0 + s1 + s2 + s3) s4; exact this
    rw [hend _ rfl, List.append_nil] at p4
    conv => lhs; rw [e0, p0]
    congr 1
    conv => lhs; rw [p1]
    congr 1
    conv => lhs; rw [p2]
    congr 1
    conv => lhs; rw [p3]
    congr 1⟩
abbrev DIns := UInt8 × Int × Int × Int × List UInt8
abbrev DSta := List UInt8 × List UInt8
def toIns (d : DIns) : Ins := ⟨d.1, d.2.1, d.2.2.1, d.2.2.2.1, d.2.2.2.2⟩
def toSta (d : DSta) : Sta := ⟨d.1, d.2⟩
def VIns : World → List Value → DIns → Prop := VRec5 1 1 1 1 1 VByte (VInt .i64) (VInt .i64) (VInt .i64) VStrZ
def VSta : World → List Value → DSta → Prop := VRec2 1 1 VStrZ VStrZ
def VCod : World → List Value → List (List DIns) × List DSta → Prop := VRec2 1 1 (VSlZ (VSlZ VIns 5 48) 1 24) (VSlZ VSta 2 32)
theorem opensIns : OpensZ Tryd.prog 46 5 VIns := opensZ_rec5 Tryd.underlying46 (by kernel_rfl) rfl rfl rfl rfl rfl rfl rfl rfl rfl rfl (opens_byte Tryd.underlying5 (by kernel_rfl)).z (opens_int Tryd.underlying2 (by kernel_rfl)).z (opens_int Tryd.underlying2 (by kernel_rfl)).z (opens_int Tryd.underlying2 (by kernel_rfl)).z (opensZ_str Tryd.underlying9 (by kernel_rfl))
theorem opensSta : OpensZ Tryd.prog 48 2 VSta := opensZ_rec2 Tryd.underlying48 (by kernel_rfl) rfl rfl rfl rfl (opensZ_str Tryd.underlying9 (by kernel_rfl)) (opensZ_str Tryd.underlying9 (by kernel_rfl))
theorem opensCod : OpensZ Tryd.prog 25 2 VCod := opensZ_rec2 Tryd.underlying25 (by kernel_rfl) rfl rfl rfl rfl (opensZ_sl (opensZ_sl opensIns (by decide) Tryd.underlying44 (by kernel_rfl) (by kernel_rfl)) (by decide) Tryd.underlying22 (by kernel_rfl) (by kernel_rfl)) (opensZ_sl opensSta (by decide) Tryd.underlying23 (by kernel_rfl) (by kernel_rfl))
theorem SlOf.cells {α β : Type} {V : World → List Value → α → Prop} {size : Nat} {w : World} {v : Value} {l : List α} (h : SlOf V size w v l) (h0 : 0 < size) (f : β → List Value) (hf : ∀ x, (f x).length = size) (g : α → β) (hV : ∀ cs d, V w cs d → cs = f (g d)) : Sl w size v l.length ((l.map g).flatMap f) := by
  obtain ⟨a, c, rfl, h1, h2, h3, h4⟩ := h
  refine ⟨by rw [flat_len f size hf, List.length_map], a, c, rfl, h1, h2, h3, fun j u hu => ?_⟩
  have hj := (List.getElem?_eq_some_iff.1 hu).1
  rw [flat_len f size hf, List.length_map] at hj
  have hq : j / size < l.length := Nat.div_lt_of_lt_mul (by rw [Nat.mul_comm]; exact hj)
  have hr : j % size < size := Nat.mod_lt _ h0
  have hjq : j = j / size * size + j % size := by rw [Nat.mul_comm]; exact (Nat.div_add_mod j size).symm
  obtain ⟨b, off, cs, ha, hl, hv, hc⟩ := h4 (j / size) hq
  refine ⟨b, off, ha, ?_⟩
  have h5 := hc (j % size) hr
  rw [hV _ _ hv] at h5
  rw [Nat.add_assoc, ← hjq] at h5
  have h6 := flat_get f size hf (l.map g) (j / size) (j % size) (g l[j / size]) (by rw [List.getElem?_map, List.getElem?_eq_getElem hq]; rfl) hr
  rw [← hjq, hu] at h6
  rw [h5, ← h6]
theorem SlOf.each {α : Type} {V : World → List Value → α → Prop} {size : Nat} {w : World} {v : Value} {l : List α} (h : SlOf V size w v l) : ∀ d ∈ l, ∃ cs, V w cs d := by
  obtain ⟨a, c, rfl, h1, h2, h3, h4⟩ := h
  intro d hd
  obtain ⟨i, hi, rfl⟩ := List.mem_iff_getElem.1 hd
  obtain ⟨b, off, cs, _, _, hv, _⟩ := h4 i hi
  exact ⟨cs, hv⟩
theorem ins_cells {w : World} {cs : List Value} {d : DIns} (h : VIns w cs d) : cs = insC (toIns d) := by
  obtain ⟨c0, c1, c2, c3, c4, hcs, _, _, _, _, _, v0, v1, v2, v3, v4⟩ := h
  rw [hcs, show c0 = [_] from v0, v1.1, v2.1, v3.1, v4.1.1]
  rfl
theorem ins_in {w : World} {cs : List Value} {d : DIns} (h : VIns w cs d) : (In64 (toIns d).a ∧ In64 (toIns d).b ∧ In64 (toIns d).c) ∧ (toIns d).t.length ≤ reachBytes := by
  obtain ⟨c0, c1, c2, c3, c4, hcs, _, _, _, _, _, v0, v1, v2, v3, v4⟩ := h
  refine ⟨⟨?_, ?_, ?_⟩, v4.2⟩
  · have := bounds_i64 v1.2; exact ⟨by show _ ≤ d.2.1; omega, by show d.2.1 ≤ _; omega⟩
  · have := bounds_i64 v2.2; exact ⟨by show _ ≤ d.2.2.1; omega, by show d.2.2.1 ≤ _; omega⟩
  · have := bounds_i64 v3.2; exact ⟨by show _ ≤ d.2.2.2.1; omega, by show d.2.2.2.1 ≤ _; omega⟩
theorem sta_cells {w : World} {cs : List Value} {d : DSta} (h : VSta w cs d) : cs = staC (toSta d) := by
  obtain ⟨c0, c1, hcs, _, _, v0, v1⟩ := h
  rw [hcs, v0.1.1, v1.1.1]
  rfl
theorem sta_in {w : World} {cs : List Value} {d : DSta} (h : VSta w cs d) : (toSta d).n.length ≤ reachBytes ∧ (toSta d).s.length ≤ reachBytes := by
  obtain ⟨c0, c1, hcs, _, _, v0, v1⟩ := h
  exact ⟨v0.2, v1.2⟩
theorem Fns.of {w : World} : ∀ (vs : List Value) (L : List (List Ins)), vs.length = L.length → (∀ (i : Nat) (v : Value) (l : List Ins), vs[i]? = some v → L[i]? = some l → Sl w 5 v l.length (inCells l)) → Fns w vs L
  | [], [], _, _ => .nil
  | [], _ :: _, h, _ => by simp at h
  | _ :: _, [], h, _ => by simp at h
  | v :: vs, l :: L, h, hh => .cons (hh 0 v l rfl rfl) (Fns.of vs L (by simpa using h) (fun i v' l' h1 h2 => hh (i + 1) v' l' (by simpa using h1) (by simpa using h2)))
/-- the numbers of a code are such as its form has -/
def CodI (c : Cod) : Prop := ∀ l ∈ c.f, ∀ x ∈ l, In64 x.a ∧ In64 x.b ∧ In64 x.c
theorem reachV : reachBytes ≤ 140737488351232 := by decide
theorem cod_open {w : World} {cs : List Value} {d : List (List DIns) × List DSta} (h : VCod w cs d) : ∃ aF nF kF aR nR kR c, cs = [.slice aF nF kF, .slice aR nR kR] ∧ CodM w (.slice aF nF kF) (.slice aR nR kR) c ∧ CodZ c ∧ CodI c := by
  obtain ⟨c0, c1, hcs, _, _, ⟨⟨vF, hvF, hF⟩, zF⟩, ⟨⟨vR, hvR, hR⟩, zR⟩⟩ := h
  have hr := reachV
  have kR : Sl w 2 vR d.2.length (stCells (d.2.map toSta)) := hR.cells (by decide) staC staC_len toSta (fun cs d h => sta_cells h)
  have eF := hF.each
  have eR := hR.each
  obtain ⟨a, c, rfl, h1, h2, h3, h4⟩ := hF
  have key : ∀ i, i < d.1.length → ∃ v : Value, (∃ b off, a = some ⟨b, off, none⟩ ∧ w.cell? ⟨b, off + i, none⟩ = some v) ∧ ∀ l, d.1[i]? = some l → SlOf VIns 5 w v l := fun i hi => by
    obtain ⟨b, off, cs, ha, hl, ⟨⟨v, hv, hs⟩, _⟩, hc⟩ := h4 i hi
    refine ⟨v, ⟨b, off, ha, ?_⟩, fun l hl => ?_⟩
    · have := hc 0 (by decide)
      rw [hv] at this
      simpa using this
    · rw [List.getElem?_eq_getElem hi] at hl
      cases hl
      exact hs
  obtain ⟨vs, hvs, hk⟩ := list_of d.1.length key
  obtain ⟨aR, kR', eR2⟩ := kR.form
  subst eR2
  have kF : Sl w 1 (.slice a d.1.length c) d.1.length vs := by
    refine ⟨by rw [hvs, Nat.mul_one], a, c, rfl, h1, h2, h3, fun j u hu => ?_⟩
    obtain ⟨hj, rfl⟩ := List.getElem?_eq_some_iff.1 hu
    exact (hk j hj).1
  refine ⟨a, d.1.length, c, aR, d.2.length, kR', ⟨d.1.map (fun l => l.map toIns), d.2.map toSta⟩, by rw [hcs, hvF, hvR]; rfl, ⟨⟨vs, ?_, ?_⟩, ?_⟩, ⟨?_, ?_, ?_, ?_⟩, ?_⟩
  · simpa using kF
  · refine Fns.of vs _ (by simp [hvs]) (fun i v l hv hl => ?_)
    obtain ⟨hj, rfl⟩ := List.getElem?_eq_some_iff.1 hv
    simp only [List.getElem?_map, Option.map_eq_some_iff] at hl
    obtain ⟨l', hl', rfl⟩ := hl
    have := ((hk i hj).2 l' hl').cells (by decide) insC insC_len toIns (fun cs d h => ins_cells h)
    rw [List.length_map]
    exact this
  · simpa using kR
  · simp only [List.length_map]; omega
  · simp only [List.length_map]; omega
  · intro l hl
    obtain ⟨l', hl', rfl⟩ := List.mem_map.1 hl
    obtain ⟨cs', ⟨v, _, hs⟩, hz⟩ := eF l' hl'
    refine ⟨by rw [List.length_map]; omega, fun x hx => ?_⟩
    obtain ⟨x', hx', rfl⟩ := List.mem_map.1 hx
    obtain ⟨cs'', hv⟩ := hs.each x' hx'
    exact Nat.le_trans (ins_in hv).2 hr
  · intro x hx
    obtain ⟨x', hx', rfl⟩ := List.mem_map.1 hx
    obtain ⟨cs', hv⟩ := eR x' hx'
    exact ⟨Nat.le_trans (sta_in hv).1 hr, Nat.le_trans (sta_in hv).2 hr⟩
  · intro l hl
    obtain ⟨l', hl', rfl⟩ := List.mem_map.1 hl
    obtain ⟨cs', ⟨v, _, hs⟩, hz⟩ := eF l' hl'
    intro x hx
    obtain ⟨x', hx', rfl⟩ := List.mem_map.1 hx
    obtain ⟨cs'', hv⟩ := hs.each x' hx'
    exact (ins_in hv).1
/-! ### a code that is not large -/
theorem flat_sum {α : Type} (g : α → List UInt8) (f : α → Nat) (A B : Nat) : ∀ (l : List α), (∀ x ∈ l, (g x).length ≤ A + B * f x) → (l.flatMap g).length ≤ A * l.length + B * sumN f l
  | [], _ => by simp [sumN]
  | x :: r, h => by
    have h1 := flat_sum g f A B r (fun y hy => h y (List.mem_cons_of_mem _ hy))
    have h2 := h x (List.mem_cons_self ..)
    simp only [List.flatMap_cons, List.length_append, List.length_cons, sumN, Nat.mul_add, Nat.mul_one]
    omega
theorem size_small {c : Cod} (h : sizeV c ≤ 3000) : c.f.length ≤ 3000 ∧ c.r.length ≤ 3000 ∧ (∀ l ∈ c.f, l.length ≤ 3000 ∧ ∀ x ∈ l, x.t.length ≤ 48015) ∧ ∀ x ∈ c.r, x.n.length ≤ 48015 ∧ x.s.length ≤ 48015 := by
  unfold sizeV at h
  refine ⟨by omega, by omega, fun l hl => ?_, fun x hx => ?_⟩
  · have h1 := sumN_mem fun16 hl
    have h2 : fun16 l = l.length + sumN t16 l := rfl
    refine ⟨by omega, fun x hx => ?_⟩
    have h3 := sumN_mem t16 hx
    have h4 : t16 x = x.t.length / 16 := rfl
    omega
  · have h1 := sumN_mem sta16 hx
    have h2 : sta16 x = (x.n.length + x.s.length) / 16 := rfl
    omega
theorem codL_small {c : Cod} (h : sizeV c ≤ 3000) : (codL c).length ≤ 200000 := by
  have e1 : ∀ x : Ins, (insL x).length ≤ 44 + 16 * t16 x := fun x => by
    have : t16 x = x.t.length / 16 := rfl
    simp only [insL, textL, List.length_append, digs_length]
    omega
  have e2 : ∀ l : List Ins, (lenL insL l).length ≤ 4 + 44 * fun16 l := fun l => by
    have h1 := flat_sum insL t16 44 16 l (fun x _ => e1 x)
    have h2 : fun16 l = l.length + sumN t16 l := rfl
    simp only [lenL, List.length_append, digs_length]
    omega
  have e3 : ∀ x : Sta, (staL x).length ≤ 23 + 16 * sta16 x := fun x => by
    have : sta16 x = (x.n.length + x.s.length) / 16 := rfl
    simp only [staL, textL, List.length_append, digs_length]
    omega
  have h1 := flat_sum (lenL insL) fun16 4 44 c.f (fun l _ => e2 l)
  have h2 := flat_sum staL sta16 23 16 c.r (fun x _ => e3 x)
  unfold sizeV at h
  simp only [codL, lenL, List.length_append, digs_length] at h1 ⊢
  omega
theorem cod_ok {c : Cod} (h : sizeV c ≤ 3000) (hi : CodI c) : CodOk c := by
  obtain ⟨h1, h2, h3, h4⟩ := size_small h
  refine ⟨⟨by omega, fun l hl => ⟨by have := (h3 l hl).1; omega, fun x hx => ⟨(hi l hl x hx).1, (hi l hl x hx).2.1, (hi l hl x hx).2.2, by have := (h3 l hl).2 x hx; omega⟩⟩⟩, by omega, fun x hx => ⟨by have := (h4 x hx).1; omega, by have := (h4 x hx).2; omega⟩⟩
end Go.Proofs.YtoddklfblcfoiaaDoor
