/-
  What HeapCollects counts; the lists that it lays by. No condition: plain laws.
-/
import Derived.Test.YtekmgffjdheifaaHpR
namespace Go.Proofs.Ytekmgffjdheifaa
open Go Go.RowKit
set_option linter.unusedVariables false
set_option linter.unusedSimpArgs false
set_option maxRecDepth 100000

/-! ### what a collection leaves -/
theorem dirty_left (H : List Th) (R : List Int) : dirtyL (collectH H R) = dirtyL H := by
  classical
  unfold dirtyL
  rw [collectH_len]
  congr 1
  refine List.filter_congr fun i hi => ?_
  have h1 := collectH_at H R (i : Nat)
  rw [thAt_nat, thAt_nat] at h1
  rw [h1]
  split
  · rfl
  · rename_i hl
    cases hd : ((H.getD i noTh).is && (H.getD i noTh).dirty) with
    | false => rfl
    | true =>
      rw [Bool.and_eq_true] at hd
      have his : (thAt H (i : Nat)).is = true := by rw [thAt_nat]; exact hd.1
      exact absurd (Live.root (List.mem_append.2 (.inr ((mem_dirtyL H i).2 ⟨his, by rw [thAt_nat]; exact hd.2⟩))) his) hl
theorem collect_is (H : List Th) (R : List Int) (k : Int) : (thAt (collectH H R) k).is = true ↔ Live H (R ++ dirtyL H) k := by
  classical
  rw [collectH_at]
  split
  · rename_i h; exact ⟨fun _ => h, fun _ => h.is⟩
  · rename_i h; exact ⟨fun e => (by cases e), fun e => absurd e h⟩
theorem collect_twice (H : List Th) (R : List Int) : collectH (collectH H R) R = collectH H R := by
  classical
  refine heap_ext (by rw [collectH_len]) fun k => ?_
  rw [collectH_at (collectH H R), dirty_left]
  split
  · rfl
  · rename_i hn
    cases e : (thAt (collectH H R) k).is with
    | false =>
      rw [collectH_at] at e ⊢
      split at e
      · rename_i h
        rw [h.is] at e
        cases e
      · rename_i h
        rw [if_neg h]
    | true =>
      have hl := (collect_is H R k).1 e
      refine absurd ?_ hn
      clear hn e
      induction hl with
      | root h1 h2 => exact .root h1 ((collect_is H R _).2 (.root h1 h2))
      | step h0 h1 h2 ih =>
        refine .step ih ?_ ((collect_is H R _).2 (.step h0 h1 h2))
        rw [collectH_at, if_pos h0]
        exact h1
/-- how many go, of those ahead of a handle -/
def wantN (H : List Th) (S : List Bool) (k : Nat) : Nat := ((List.range k).filter fun (j : Nat) => (thAt H j).is && !S.getD j false).length
theorem want_next (H : List Th) (S : List Bool) (k : Nat) : wantN H S (k + 1) = wantN H S k + if (thAt H k).is && !S.getD k false then 1 else 0 := by
  unfold wantN
  rw [List.range_succ, List.filter_append, List.length_append]
  congr 1
  rw [List.filter_cons, List.filter_nil]
  cases h : (thAt H k).is && !S.getD k false <;> rfl
theorem want_one {H : List Th} {m : Nat} (hg : Good H m) (S : List Bool) : wantN H S 1 = 0 := by
  have h1 := want_next H S 0
  rw [show ((0 : Nat) : Int) = 0 from rfl, hg.zero] at h1
  simpa [wantN, noTh] using h1
theorem want_le (H : List Th) (S : List Bool) (k : Nat) : wantN H S k ≤ k := by
  unfold wantN
  exact Nat.le_trans (List.length_filter_le _ _) (by simp)
theorem want_count {H : List Th} {S : List Bool} {R : List Int} (h : Rchs H S (R ++ dirtyL H)) : ∀ k, k ≤ H.length → countH (H.take k) = countH ((collectH H R).take k) + wantN H S k := by
  classical
  intro k
  induction k with
  | zero => intro _; rfl
  | succ k ih =>
    intro hk
    rw [count_take (by omega), count_take (by rw [collectH_len]; omega), want_next, ih (by omega)]
    have h1 := collect_is H R (k : Nat)
    rw [← h.all, mk_nat] at h1
    have h2 : (thAt (collectH H R) (k : Nat)).is = true → (thAt H (k : Nat)).is = true := fun e => ((collect_is H R k).1 e).is
    have h3 : S.getD k false = true → (thAt H (k : Nat)).is = true := fun e => h2 (h1.2 e)
    cases e1 : (thAt (collectH H R) (k : Nat)).is <;> cases e2 : (thAt H (k : Nat)).is <;> cases e3 : S.getD k false <;> simp_all <;> omega
theorem want_all {H : List Th} {S : List Bool} {R : List Int} (h : Rchs H S (R ++ dirtyL H)) : countH H = countH (collectH H R) + wantN H S H.length := by
  have := want_count h H.length (Nat.le_refl _)
  rwa [List.take_length, List.take_of_length_le (by rw [collectH_len]; exact Nat.le_refl _)] at this
theorem collect_mkd {H : List Th} {S : List Bool} {R : List Int} (h : Rchs H S (R ++ dirtyL H)) (j : Nat) : thAt (collectH H R) (j : Nat) = if S.getD j false = true then thAt H j else noTh := by
  classical
  rw [collectH_at]
  have h1 := h.all (j : Nat)
  rw [mk_nat] at h1
  by_cases e : S.getD j false = true
  · rw [if_pos e, if_pos (h1.1 e)]
  · rw [if_neg e, if_neg (fun h => e (h1.2 h))]
section
variable {m b : Nat} {w0 : World} {H : List Th} {n : Nat} {col : Nat → Nat} {w : World}
theorem plz_collect (h : Pl m b w0 H n col w) (hm : m ≤ 16777216) (hn : n ≤ 1000) (R : List Int) (a : Option Addr) (nR c : Nat) (hR : Sl w 1 (.slice a nR c) nR (ints R)) (hRw : ∀ k ∈ R, (Lit.int .i64 k).wf = true) (hn9 : nR ≤ 1048576) (H' : List Th) (HH : Hid (H' = collectH H R)) (N : Int) (HN : Hid (N = (countH H : Int) - (countH H' : Int))) :
    Calls Try.prog 29 #[.pointer (some ⟨b, 0, none⟩), .slice a nR c] w fun e w' => e = .returned (.int .i64 N) ∧ ∃ col', Hid (Pl m b w0 H' n col' w' ∧ St HQ col w col' w') := by
  obtain ⟨bm, bt, ks, at_, ts, tf, hH⟩ := h.A
  have hl9 := h.L.len
  refine (collect_p hH h.L.good hm (by omega) h.L.wf R a nR c hR hRw hn9 H' HH N HN).mono ?_
  rintro e w' ⟨rfl, col', h3, h4⟩
  have hH' := HH.out
  subst hH'
  refine ⟨rfl, col', Lib.hid ⟨⟨h.K.trans (h3.mono hq_nz), h4, collect_keep h.L.good R, ?_, by rw [collectH_len]; exact hl9⟩, h3⟩⟩
  have := do_wf (m := m) h.L.wf ⟨10, 0, 0, noOb, (0, 0), R⟩ (by intro y hy; cases hy) (show (Lit.int .i64 0).wf = true by decide)
  simpa [doH] using this
end
/-! ### make of things of several cells -/
theorem wpL_makeS {P : Program} {w : World} {ops : Array Oper} {rest : List Oper} {o : Oper} {a : Act} {Q : Exit → Act → World → Prop} {t e : TypeId} {z : Value} {size bytes : Nat} (hT : ET P t e z size bytes)
    (hgd : o.guard = none) (l c : Operand) (ho : o.op = .makeSlice t l c) (n : Nat) (base : Nat) {kl kc : IntKind} {L C : Int} (hl : a.eval l = .int kl L) (hc : a.eval c = .int kc C) (hL : L = (n : Int)) (hC : C = (n : Int))
    (b2 : bytes * n ≤ 281474976710656) (b3 : n ≤ maxLen) (b4 : base ≤ w.heap.size)
    (h : ∀ v' w' xs, Own w' base size v' n xs → Below w.heap.size w w' → (∃ g off, v' = .slice (some ⟨g, off, none⟩) n n ∧ w.heap.size ≤ g) → wpList P ops Q rest (a.put o.dst v') w') : wpList P ops Q (o :: rest) a w := by
  obtain ⟨i, hi, hz0, hz1, hz2⟩ := info_parts hT.info
  refine wpList_make_full w hgd l c t ho base e i z size hT.und hi hz0 hz1 kl kc L C n hl hc hL hC (by rw [hz2]; exact b2) b3 b4 ?_
  intro w' h1 h2
  exact h _ w' _ (Own.ofRow h1) (below_of_grown0 h2) ⟨_, _, rfl, Nat.le_refl _⟩
theorem splice_get {α : Type} (L cs : List α) (p j : Nat) (h : p + cs.length ≤ L.length) : (splice L p cs)[j]? = if p ≤ j ∧ j < p + cs.length then cs[j - p]? else L[j]? := by
  unfold splice
  rw [List.getElem?_append]
  have hl : (L.take p).length = p := by rw [List.length_take]; omega
  rw [hl]
  by_cases h1 : j < p
  · rw [if_pos h1, if_neg (by omega), List.getElem?_take_of_lt h1]
  · rw [if_neg h1, List.getElem?_append]
    by_cases h2 : j < p + cs.length
    · rw [if_pos (by omega), if_pos (by omega)]
    · rw [if_neg (by omega), if_neg (by omega), List.getElem?_drop]
      congr 1
      omega
/-- the lists that are laid by: what is marked, what is dirty, the objects that were there, whether they were, their oids -/
structure Ar (H : List Th) (S : List Bool) (sz nD gd od gw ow gt ot gx ox : Nat) (aD : Option Addr) (cD : Nat) (j : Nat) (col : Nat → Nat) (w : World) (xs : List Value) (Bs : List Bool) (Os : List Int) : Prop where
  D : OwnC col w 9 1 (.slice (some ⟨gd, od, none⟩) sz sz) sz (bos S)
  R : OwnC col w 8 1 (.slice aD nD cD) nD (ints (dirtyL H))
  W : OwnC col w 10 4 (.slice (some ⟨gw, ow, none⟩) sz sz) sz xs
  T : OwnC col w 11 1 (.slice (some ⟨gt, ot, none⟩) sz sz) sz (bos Bs)
  X : OwnC col w 12 1 (.slice (some ⟨gx, ox, none⟩) sz sz) sz (ints Os)
  bt : ∀ i, 1 ≤ i → i < j → Bs.getD i false = (thAt H i).is
  bx : ∀ i, 1 ≤ i → i < j → Os.getD i 0 = (thAt H i).oid
  V : ∀ i, 1 ≤ i → i < j → ∃ a c, xs[i * 4]? = some (.int .u8 ((thAt H i).o.k.toNat : Int)) ∧ xs[i * 4 + 1]? = some (.int .i64 (thAt H i).o.t) ∧ xs[i * 4 + 2]? = some (.slice a (thAt H i).o.l.length c) ∧ xs[i * 4 + 3]? = some (.string (str (thAt H i).o.s)) ∧ OwnC col w 13 2 (.slice a (thAt H i).o.l.length c) (thAt H i).o.l.length (wcells (thAt H i).o.l)
section
variable {H : List Th} {S : List Bool} {sz nD gd od gw ow gt ot gx ox : Nat} {aD : Option Addr} {cD j : Nat} {col col' : Nat → Nat} {w w' : World} {xs : List Value} {Bs : List Bool} {Os : List Int}
theorem Ar.st {Q : Nat → Prop} (h : Ar H S sz nD gd od gw ow gt ot gx ox aD cD j col w xs Bs Os) (k : St Q col w col' w') (hQ : ∀ c, Q c → c = 5 ∨ 100 ≤ c) : Ar H S sz nD gd od gw ow gt ot gx ox aD cD j col' w' xs Bs Os :=
  ⟨h.D.st k (fun q => by have := hQ _ q; omega), h.R.st k (fun q => by have := hQ _ q; omega), h.W.st k (fun q => by have := hQ _ q; omega), h.T.st k (fun q => by have := hQ _ q; omega), h.X.st k (fun q => by have := hQ _ q; omega), h.bt, h.bx, fun i h1 h2 => by
    obtain ⟨a, c, p0, p1, p2, p3, p4⟩ := h.V i h1 h2
    exact ⟨a, c, p0, p1, p2, p3, p4.st k (fun q => by have := hQ _ q; omega)⟩⟩
theorem hq_far : ∀ c, HQ c → c = 5 ∨ 100 ≤ c := fun c h => by rcases h with h | h <;> omega
/-- one more object is laid by -/
theorem Ar.put {w1 w2 w3 : World} {a : Option Addr} {c : Nat} (h : Ar H S sz nD gd od gw ow gt ot gx ox aD cD j col w xs Bs Os) (hj : j < sz)
    (hv : OwnC col w 13 2 (.slice a (thAt H j).o.l.length c) (thAt H j).o.l.length (wcells (thAt H j).o.l))
    (g1 : w.grownBy w1 (some gw)) (o1 : Own w1 0 4 (.slice (some ⟨gw, ow, none⟩) sz sz) sz (splice xs (j * 4) [.int .u8 ((thAt H j).o.k.toNat : Int), .int .i64 (thAt H j).o.t, .slice a (thAt H j).o.l.length c, .string (str (thAt H j).o.s)]))
    (g2 : w1.grownBy w2 (some gt)) (o2 : Own w2 0 1 (.slice (some ⟨gt, ot, none⟩) sz sz) sz ((bos Bs).set j (.bool (thAt H j).is)))
    (hb : Below w2.heap.size w2 w') (g3 : w'.grownBy w3 (some gx)) (o3 : Own w3 0 1 (.slice (some ⟨gx, ox, none⟩) sz sz) sz ((ints Os).set j (.int .i64 (thAt H j).oid))) :
    ∃ xs' Bs' Os', Ar H S sz nD gd od gw ow gt ot gx ox aD cD (j + 1) col w3 xs' Bs' Os' := by
  have cw : col gw = 10 := h.W.2 gw rfl
  have ct : col gt = 11 := h.T.2 gt rfl
  have cx : col gx = 12 := h.X.2 gx rfl
  have k1 : St (fun y => y = 10) col w col w1 := St.one g1 _ _ cw
  have k2 : St (fun y => y = 11) col w1 col w2 := St.one g2 _ _ ct
  have k2' : St (fun y => y = 11) col w1 col w' := k2.trans (St.fresh hb _ _)
  have k3 : St (fun y => y = 12) col w' col w3 := St.one g3 _ _ cx
  have lx := h.W.1.1
  have lb := h.T.1.1
  have lo := h.X.1.1
  rw [bos_length] at lb
  rw [ints_length] at lo
  have W1 : OwnC col w1 10 4 (.slice (some ⟨gw, ow, none⟩) sz sz) sz _ := ⟨o1, h.W.2⟩
  have T2 : OwnC col w2 11 1 (.slice (some ⟨gt, ot, none⟩) sz sz) sz _ := ⟨o2, h.T.2⟩
  have X3 : OwnC col w3 12 1 (.slice (some ⟨gx, ox, none⟩) sz sz) sz _ := ⟨o3, h.X.2⟩
  rw [bos_set] at T2
  rw [ints_set] at X3
  have mv : ∀ {c size n : Nat} {v : Value} {ys : List Value}, OwnC col w c size v n ys → c ≠ 10 → c ≠ 11 → c ≠ 12 → OwnC col w3 c size v n ys := fun ho h1 h2 h3 => ((ho.st k1 h1).st k2' h2).st k3 h3
  refine ⟨_, _, _, mv h.D (by decide) (by decide) (by decide), mv h.R (by decide) (by decide) (by decide), (W1.st k2' (by decide)).st k3 (by decide), (T2.st (St.fresh hb (fun _ => False) col) (fun h => h)).st k3 (by decide), X3, fun i h1 h2 => ?_, fun i h1 h2 => ?_, fun i h1 h2 => ?_⟩
  · rw [List.getD_eq_getElem?_getD, List.getElem?_set]
    by_cases e : j = i
    · subst e
      rw [if_pos rfl, if_pos (by omega)]
      rfl
    · rw [if_neg e, ← List.getD_eq_getElem?_getD]
      exact h.bt i h1 (by omega)
  · rw [List.getD_eq_getElem?_getD, List.getElem?_set]
    by_cases e : j = i
    · subst e
      rw [if_pos rfl, if_pos (by omega)]
      rfl
    · rw [if_neg e, ← List.getD_eq_getElem?_getD]
      exact h.bx i h1 (by omega)
  · have hs : ∀ p, p < 4 → (splice xs (j * 4) [.int .u8 ((thAt H j).o.k.toNat : Int), .int .i64 (thAt H j).o.t, .slice a (thAt H j).o.l.length c, .string (str (thAt H j).o.s)])[i * 4 + p]? = if i = j then [Value.int .u8 ((thAt H j).o.k.toNat : Int), .int .i64 (thAt H j).o.t, .slice a (thAt H j).o.l.length c, .string (str (thAt H j).o.s)][p]? else xs[i * 4 + p]? := fun p hp => by
      rw [splice_get _ _ _ _ (by simp; omega)]
      by_cases e : i = j
      · subst e
        rw [if_pos (by simp; omega), if_pos rfl]
        congr 1
        omega
      · rw [if_neg (by simp; omega), if_neg e]
    have q0 := hs 0 (by decide)
    have q1 := hs 1 (by decide)
    have q2 := hs 2 (by decide)
    have q3 := hs 3 (by decide)
    rw [Nat.add_zero] at q0
    by_cases e : i = j
    · subst e
      rw [if_pos rfl] at q0 q1 q2 q3
      exact ⟨a, c, q0, q1, q2, q3, mv hv (by decide) (by decide) (by decide)⟩
    · rw [if_neg e] at q0 q1 q2 q3
      obtain ⟨a', c', p0, p1, p2, p3, p4⟩ := h.V i h1 (by omega)
      exact ⟨a', c', q0.trans p0, q1.trans p1, q2.trans p2, q3.trans p3, mv p4 (by decide) (by decide) (by decide)⟩
end
end Go.Proofs.Ytekmgffjdheifaa
