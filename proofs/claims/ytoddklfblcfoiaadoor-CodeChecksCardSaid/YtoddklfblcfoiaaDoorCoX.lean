/-
  What the walk through a function needs: how long the tries may be, what is left without its first, the deferred closure. No condition.
-/
import Derived.Test.YtoddklfblcfoiaaDoorCoW
import Derived.Defers
import Derived.Recover
namespace Go.Proofs.YtoddklfblcfoiaaDoor
open Go Go.RowKit Go.Maps
set_option linter.unusedVariables false
set_option linter.unusedSimpArgs false
set_option maxRecDepth 100000

/-! ### how long the tries may be -/
theorem unl_lt {n q : Nat} {K K' : Lab} {t : Lb} (hk : ∀ q t, K q = some t → K' q = some t) (hq : K' q = some t) (hkq : K q = none) (hlt : q < n) : unl n K' < unl n K := by
  have hmono : ∀ m, ((List.range m).filter fun i => (K' i).isNone).length + (if q < m then 1 else 0) ≤ ((List.range m).filter fun i => (K i).isNone).length := by
    intro m
    induction m with
    | zero => simp
    | succ m ih =>
      rw [List.range_succ, List.filter_append, List.filter_append, List.length_append, List.length_append]
      by_cases hqm : q = m
      · subst hqm
        rw [if_neg (by omega)] at ih
        rw [if_pos (by omega)]
        simp [hq, hkq] at ih ⊢
        omega
      · have himp : (K' m).isNone = true → (K m).isNone = true := by
          intro h1
          cases hkm : K m with
          | none => rfl
          | some u => rw [hk _ _ hkm] at h1; cases h1
        by_cases hlt2 : q < m
        · rw [if_pos hlt2] at ih
          rw [if_pos (by omega)]
          cases h1 : (K' m).isNone with
          | true => simp [List.filter_cons, h1, himp h1] at ih ⊢; omega
          | false => cases h2 : (K m).isNone <;> simp [List.filter_cons, h1, h2] at ih ⊢ <;> omega
        · rw [if_neg hlt2] at ih
          rw [if_neg (by omega)]
          cases h1 : (K' m).isNone with
          | true => simp [List.filter_cons, h1, himp h1] at ih ⊢; omega
          | false => cases h2 : (K m).isNone <;> simp [List.filter_cons, h1, h2] at ih ⊢ <;> omega
  have := hmono n
  rw [if_pos hlt] at this
  unfold unl
  omega
theorem outs_tl {K : Lab} {s : Lb} {f : Nat} {g : Ins} {at_ : Nat} {x : Ins} {ts : List (Int × Lb)} (ho : outs K f g at_ x s = some ts) : ∀ t ∈ ts, t.2.2.length ≤ s.2.length + 1 := by
  intro t ht
  cases outs_of ho with
  | on tk pt h1 h2 => rw [(on_of h2).2] at ht; rw [List.mem_singleton.1 ht]; simp
  | none h1 => rw [h1] at ht; cases ht
  | jump h1 => rw [h1] at ht; rw [List.mem_singleton.1 ht]; simp
  | two h0 h1 =>
    rw [h1] at ht
    rcases List.mem_cons.1 ht with rfl | ht
    · simp
    · rw [List.mem_singleton.1 ht]; simp
  | try_ h1 =>
    rw [h1] at ht
    rcases List.mem_cons.1 ht with rfl | ht
    · simp
    · rw [List.mem_singleton.1 ht]; simp
  | end_ h1 => rw [h1] at ht; rw [List.mem_singleton.1 ht]; simp; omega
  | root h1 =>
    rw [h1] at ht
    rcases List.mem_cons.1 ht with rfl | ht
    · simp
    · rw [List.mem_singleton.1 ht]; simp
def TlB (n : Nat) (K : Lab) : Prop := ∀ q t, K q = some t → t.2.length + unl n K ≤ n
theorem TlB.begin {n : Nat} (h : 0 < n) (f : Nat) : TlB n (setK (fun _ => none) 0 (leastV f, [])) := by
  intro q t hq
  have := unl_le n (setK (fun _ => none) 0 (leastV f, []))
  unfold setK at hq
  split at hq
  · cases hq; simpa using this
  · cases hq
theorem TlB.step {l : List Ins} {f : Nat} {g : Ins} {K : Lab} {rest : List Nat} {at_ : Nat} (h : TlB l.length K) {x : Ins} {s : Lb} (hs : K at_ = some s) {K' : Lab} {left' : List Nat} (hst : stepV l f g K rest at_ x s = some (K', left')) : TlB l.length K' := by
  unfold stepV at hst
  cases ho : outs K f g at_ x s with
  | none => rw [ho] at hst; cases hst
  | some ts =>
    rw [ho] at hst
    simp only at hst
    obtain ⟨a1, a2, ⟨more, a3, a3'⟩, a4, d, a5, a6⟩ := toAll_spec _ _ _ _ _ _ hst
    intro q t hq
    rcases a4 q t hq with h1 | ⟨hin, hlt, z, hz, rfl, e, _⟩
    · have := h q t h1
      omega
    · rcases hkq : K q with _ | t'
      · have h2 := outs_tl ho z hz
        have h3 := h at_ s hs
        have h4 := unl_lt a1 hq hkq hlt
        omega
      · have h2 := a1 _ _ hkq
        rw [hq] at h2
        cases h2
        have := h q _ hkq
        omega
theorem KnM.looksA {w : World} {bm base top : Nat} {B : Option Nat} {n : Nat} {K : Lab} (h : KnM w bm base top B n K) (hn : n ≤ 1000000) {p : Nat} {s : Lb} (hs : K p = some s) : ∃ a c, (∀ x : Later Rb w.drew, (Instr.lookup 117 (.map (some bm)) (.int .i64 (p : Nat)) false).run Tryd.prog x.w = .ok (.agg #[.int .i64 s.1, .slice (adrOf a) s.2.length c]) x.w) ∧ TrV w base top B (.slice (adrOf a) s.2.length c) s.2 := by
  obtain ⟨a, c, h1, h2⟩ := h.looks hn hs
  obtain ⟨a', c', he⟩ := h2.2.2
  injection he with e1 e2 e3
  subst e1
  exact ⟨a', c, h1, h2⟩
/-! ### what is left without its first -/
theorem Own.tail {w : World} {base g off n cap : Nat} {xs : List Value} (h : Own w base 1 (.slice (some ⟨g, off, none⟩) n cap) n xs) (hn : 0 < n) : Own w base 1 (.slice (cutAddr (some ⟨g, off, none⟩) cap 1) (n - 1) (cap - 1)) (n - 1) (xs.drop 1) ∧ ∃ off', cutAddr (some ⟨g, off, none⟩) cap 1 = some ⟨g, off', none⟩ := by
  obtain ⟨hl, hc⟩ := h
  rcases hc with ⟨e, _⟩ | ⟨g', off', cap', e, hb⟩
  · cases e
  · cases e
    by_cases h1 : cap = 1
    · subst h1
      have hn1 : n = 1 := by have := hb.nc; omega
      subst hn1
      refine ⟨⟨by simp; omega, .inr ⟨g, off, 0, by simp [cutAddr], ⟨hb.base, hb.lt, by omega, by omega, fun j hj => by omega, fun j u hu => ?_⟩⟩⟩, off, by simp [cutAddr]⟩
      rw [List.getElem?_drop] at hu
      have := (List.getElem?_eq_some_iff.1 hu).1
      omega
    · have hnc := hb.nc
      have hmx := hb.max
      have e1 : cutAddr (some ⟨g, off, none⟩) cap 1 = some ⟨g, off + 1, none⟩ := by
        unfold cutAddr
        rw [if_neg h1]
        simp [add_eq]
      refine ⟨⟨by simp; omega, .inr ⟨g, off + 1, cap - 1, by rw [e1], ⟨hb.base, hb.lt, by omega, by omega, fun j hj => ?_, fun j u hu => ?_⟩⟩⟩, off + 1, e1⟩
      · have := hb.there (1 + j) (by omega)
        rw [show off + 1 + j = off + (1 + j) by omega]
        exact this
      · rw [List.getElem?_drop] at hu
        have := hb.vals (1 + j) u hu
        rw [show off + 1 + j = off + (1 + j) by omega]
        exact this
theorem WkS.cut {w0 : World} {ob bm base top f : Nat} {l : List Ins} {g : Ins} {aC : Option Addr} {nC cC : Nat} {w : World} {g6 off n cap : Nat} {K : Lab} {p : Nat} {rest : List Nat} (h : WkS w0 ob bm base top f l g aC nC cC w (.slice (some ⟨g6, off, none⟩) n cap) K (p :: rest)) :
    WkS w0 ob bm base top f l g aC nC cC (w.setCell ⟨ob, 8, none⟩ (.slice (cutAddr (some ⟨g6, off, none⟩) cap 1) (n - 1) (cap - 1))) (.slice (cutAddr (some ⟨g6, off, none⟩) cap 1) (n - 1) (cap - 1)) K rest ∧
    (∃ off', cutAddr (some ⟨g6, off, none⟩) cap 1 = some ⟨g6, off', none⟩) := by
  have hn : n = rest.length + 1 := by have := h.lft.sl.cap.2.2.1; simpa using this
  have hl := h.lft
  rw [show (p :: rest).length = n by simp; omega] at hl
  obtain ⟨ho, off', ha⟩ := hl.tail (by omega)
  have hu := h.up
  have hob := h.obk
  have hbm := h.bmk
  have hset := Mods.set w ob 8 (.slice (cutAddr (some ⟨g6, off, none⟩) cap 1) (n - 1) (cap - 1))
  have hown : (Value.slice (cutAddr (some ⟨g6, off, none⟩) cap 1) (n - 1) (cap - 1)).ownBlock = (Value.slice (some ⟨g6, off, none⟩) n cap).ownBlock := by rw [ha]; rfl
  refine ⟨⟨?_, ?_, ?_, hob, hbm, h.ne, below_mods h.bel hset (fun g hg => by omega) h.bel.size, ⟨hu.1, Nat.le_trans hu.2 hset.size⟩⟩, off', ha⟩
  · exact h.row.set 8 _
  · rw [hown]
    exact h.map.mods hu.2 hset (fun g h1 _ _ e => by omega) (fun g hg => .inl hg) (fun e => h.ne e.symm)
  · have e : n - 1 = rest.length := by omega
    have h2 := ho.far (b := ob) (o := 8) hob.2 (.slice (cutAddr (some ⟨g6, off, none⟩) cap 1) (n - 1) (cap - 1))
    rw [e] at h2 ⊢
    exact h2
/-! ### the deferred closure -/
theorem runs_idle (p : Addr) (w : World) :
    CallsD Tryd.prog 63 #[.pointer (some p)] .returning w fun e u' w' => e = .returned (.tuple #[]) ∧ u' = .returning ∧ w' = w := by
  refine callsD_of_wpS Tryd.func63 rfl fun c₀ cs hu => ?_
  apply wpS_seq
  apply wpS_region
  simp [wpOpsS, go_sem, recoverD, hu, Tryd.ntmps63, Exit.thenS]
  apply wpS_seq
  apply wpS_region
  simp [wpOpsS, go_sem, Exit.thenS]
  refine wpS_cond (t := false) (by simp [Act.eval, Array.replicate]) ?_
  simp only [Bool.false_eq_true, if_false]
  refine wpS_of_wp (wp_skip ?_)
  cases c₀
  simp_all [bodyPostS, results, Tryd.results63]
set_option maxHeartbeats 1600000 in
theorem runs_catch (g : Nat) (older : List PanicEntry) (w : World) (B : Bool) (hc : Row w g 4 [.bool B]) :
    CallsD Tryd.prog 63 #[.pointer (some ⟨g, 0, none⟩)] (.panicking ({ v := .iface 114 (.agg #[]), recovered := false } :: older)) w fun e u' w' =>
      e = .returned (.tuple #[]) ∧ u' = .panicking ({ v := .iface 114 (.agg #[]), recovered := true } :: older) ∧ Row w' g 4 [.bool false] ∧ Mods (fun b => b = g) w w' := by
  refine callsD_of_wpS Tryd.func63 rfl fun c₀ cs hu => ?_
  apply wpS_seq
  apply wpS_region
  simp [wpOpsS, go_sem, recoverD, hu, Tryd.ntmps63, Exit.thenS]
  apply wpS_seq
  apply wpS_region
  simp [wpOpsS, go_sem, Exit.thenS]
  refine wpS_cond (t := true) (by simp [Act.eval, Array.replicate]) ?_
  simp only [if_true]
  refine wpS_of_wp ?_
  have HC := Lib.hid hc
  clear hc
  have hta : ∀ w : World, (Instr.typeAssert (.iface 114 (.agg #[])) 20 114 true).run Tryd.prog w = .ok (.tuple #[.agg #[], .bool true]) w := fun w => by kernel_rfl
  change Code.wp Tryd.prog _ _ { tmps := #[.pointer (some ⟨g, 0, none⟩), .iface 114 (.agg #[]), undef, undef, .iface 114 (.agg #[]), .iface 114 (.agg #[]), .bool true, undef, undef, undef, undef, undef, undef, undef, undef], defers := [] } w
  go_upto_region 3 with fail
  obtain ⟨w1, hw1⟩ : ∃ y, y = w.alloc (.cells #[] 114) := ⟨_, rfl⟩
  have hb1 : Below w.heap.size w w1 := by rw [hw1]; exact (Below.refl _ _).alloc (Nat.le_refl _) _
  have hc1 := HC.out.after hb1
  have c0 := hc1.cell 0
  have f0 := hc1.free 0
  simp only [List.getElem?_cons_zero] at c0
  rw [← hw1]
  clear hw1
  go_wp2_with fail
  cases c₀
  simp only at hu
  subst hu
  refine ⟨rfl, _, rfl, .tuple #[], by simp [results, Tryd.results63], rfl, rfl, ?_, ?_⟩
  · exact hc1.set 0 _
  · exact (Mods.fresh hb1 _).trans (Mods.set _ _ _ _)
theorem runs_results {wr : World} {g : Nat} {B : Bool} (tmps : Array Value) (h2 : tmps.getD 4 undef = .pointer (some ⟨g, 0, none⟩)) (hc : Row wr g 4 [.bool B]) :
    (results Tryd.f42 tmps).run Tryd.prog wr = .ok (.bool B) wr := by
  have e2 : tmps[4]?.getD undef = .pointer (some ⟨g, 0, none⟩) := by simpa using h2
  have c0 := hc.cell 0
  simp only [List.getElem?_cons_zero] at c0
  simp [results, Tryd.results42, e2, asAddr, go_sem, loadVar, c0]
theorem runs_ends {wr : World} {g : Nat} {B : Bool} (tmps : Array Value) (h2 : tmps.getD 4 undef = .pointer (some ⟨g, 0, none⟩)) (hc : Row wr g 4 [.bool B]) {R : Ending → World → Prop} (hR : R (.returned (.bool B)) wr) :
    Leaves Tryd.prog Tryd.f42 tmps R [{ target := .fn (.func 63) #[.pointer (some ⟨g, 0, none⟩)], args := #[] }] .returning wr := by
  refine leaves_cons (f := 63) (args := #[.pointer (some ⟨g, 0, none⟩)]) (by simp) (by simp [go_sem]) ?_
  refine (runs_idle _ _).mono ?_
  rintro e u' w'' ⟨rfl, rfl, rfl⟩
  exact ⟨_, runs_results tmps h2 hc, hR⟩
theorem runs_falls {wr : World} {g : Nat} {B : Bool} (tmps : Array Value) (h2 : tmps.getD 4 undef = .pointer (some ⟨g, 0, none⟩)) (hc : Row wr g 4 [.bool B]) {R : Ending → World → Prop}
    (hR : ∀ w', Mods (fun b => b = g) wr w' → R (.returned (.bool false)) w') :
    Leaves Tryd.prog Tryd.f42 tmps R [{ target := .fn (.func 63) #[.pointer (some ⟨g, 0, none⟩)], args := #[] }] (.panicking wrongE) wr := by
  refine leaves_cons (f := 63) (args := #[.pointer (some ⟨g, 0, none⟩)]) (by simp) (by simp [go_sem]) ?_
  refine (runs_catch g [] _ B hc).mono ?_
  rintro e u' w'' ⟨rfl, rfl, hg, hmm⟩
  exact ⟨_, runs_results tmps h2 hg, hR w'' hmm⟩
end Go.Proofs.YtoddklfblcfoiaaDoor
