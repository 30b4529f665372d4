/-
  Images: sectors in new memory, whether two are the same, the image of a disk. Conditions: the slices read as images.
-/
import Derived.Test.YtchjfmgfoifbcaaDskB
import Derived.Test.YtchjfmgfoifbcaaRef00
namespace Go.Proofs.Ytchjfmgfoifbcaa
open Go.RowKit
set_option linter.unusedVariables false
set_option linter.unusedSimpArgs false
set_option maxRecDepth 100000

theorem etBB : ET Try.prog 44 34 (.slice none 0 0) 1 24 := ⟨Try.underlying44, by kernel_rfl, rfl, by decide⟩
/-- slices that read -/
inductive Sls (w : World) : List Value → List (List UInt8) → Prop where
  | nil : Sls w [] []
  | cons {v : Value} {l : List UInt8} {vs : List Value} {L : List (List UInt8)} : Sl w 1 v l.length (bvs l) → Sls w vs L → Sls w (v :: vs) (l :: L)
theorem Imms.sls {col : Nat → Nat} {w : World} {vs : List Value} {L : List (List UInt8)} (h : Imms col w vs L) : Sls w vs L := by
  induction h with
  | nil => exact .nil
  | cons h1 _ ih => exact .cons h1.1 ih
theorem Sls.stay {w w' : World} {vs : List Value} {L : List (List UInt8)} (h : Sls w vs L) (hb : Below w.heap.size w w') : Sls w' vs L := by
  induction h with
  | nil => exact .nil
  | cons h1 _ ih => exact .cons (h1.below hb) ih
theorem Sls.len {w : World} {vs : List Value} {L : List (List UInt8)} (h : Sls w vs L) : vs.length = L.length := by
  induction h with
  | nil => rfl
  | cons _ _ ih => simp [ih]
theorem Sls.get {w : World} {vs : List Value} {L : List (List UInt8)} (h : Sls w vs L) : ∀ i, i < L.length → ∃ a c, vs[i]? = some (.slice a (L.getD i []).length c) ∧ Sl w 1 (.slice a (L.getD i []).length c) (L.getD i []).length (bvs (L.getD i [])) := by
  induction h with
  | nil => intro i hi; simp at hi
  | cons h1 _ ih =>
    intro i hi
    cases i with
    | zero =>
      obtain ⟨a, c, rfl⟩ := h1.form
      exact ⟨a, c, rfl, h1⟩
    | succ i =>
      obtain ⟨a, c, hv, hm⟩ := ih i (by simpa using hi)
      exact ⟨a, c, by simpa using hv, by simpa using hm⟩
/-- an image that is read -/
def ImR (w : World) (v : Value) (L : List (List UInt8)) : Prop := ∃ vs, Sl w 1 v L.length vs ∧ Sls w vs L
theorem ImR.below {w w' : World} {v : Value} {L : List (List UInt8)} (h : ImR w v L) (hb : Below w.heap.size w w') : ImR w' v L := by
  obtain ⟨vs, h1, h2⟩ := h
  exact ⟨vs, h1.below hb, h2.stay hb⟩
theorem ImR.at {w : World} {a : Option Addr} {n c : Nat} {L : List (List UInt8)} (h : ImR w (.slice a n c) L) (i : Nat) (hi : i < n) :
    ∃ g off av cv, a = some ⟨g, off, none⟩ ∧ w.cell? ⟨g, off + i, none⟩ = some (.slice av (L.getD i []).length cv) ∧ Sl w 1 (.slice av (L.getD i []).length cv) (L.getD i []).length (bvs (L.getD i [])) := by
  obtain ⟨vs, h1, h2⟩ := h
  have hn := h1.cap.2.2.1
  subst hn
  obtain ⟨g, off, u, ha, hu, hc⟩ := h1.at (k := i) (by omega)
  obtain ⟨av, cv, hv, hm⟩ := h2.get i hi
  rw [hu] at hv; cases hv
  exact ⟨g, off, av, cv, ha, hc, hm⟩
theorem ImR.len {w : World} {a : Option Addr} {n c : Nat} {L : List (List UInt8)} (h : ImR w (.slice a n c) L) : L.length = n ∧ n ≤ 9223372036854775807 := by
  obtain ⟨vs, h1, h2⟩ := h
  have := h1.cap
  omega
theorem DkIn.imr {e : TypeId} {c : Nat} {col : Nat → Nat} {w : World} {b : Nat} {D : Dk} {aS : Option Addr} {cS : Nat} {aP : Option Addr} {cP : Nat} {sv pv : List Value} (h : DkIn e c col w b D aS cS aP cP sv pv) : ImR w (.slice aS D.S.length cS) D.S := ⟨sv, h.so.1.sl, h.si.sls⟩

/-! ### images of one's own -/
inductive Owns (w : World) (base : Nat) : List Value → List (List UInt8) → Prop where
  | nil : Owns w base [] []
  | cons {v : Value} {l : List UInt8} {vs : List Value} {L : List (List UInt8)} : Own w base 1 v l.length (bvs l) → Owns w base vs L → Owns w base (v :: vs) (l :: L)
theorem Owns.stay {w w' : World} {base : Nat} {vs : List Value} {L : List (List UInt8)} (h : Owns w base vs L) (hb : Below w.heap.size w w') : Owns w' base vs L := by
  induction h with
  | nil => exact .nil
  | cons h1 _ ih => exact .cons (h1.below hb) ih
theorem Owns.kept {w w' : World} {base : Nat} {vs : List Value} {L : List (List UInt8)} (h : Owns w base vs L) {row : Option Nat} (hg : w.grownBy w' row) (hne : ∀ u ∈ vs, ∀ g, u.ownBlock = some g → row ≠ some g) : Owns w' base vs L := by
  induction h with
  | nil => exact .nil
  | @cons v l vs L h1 _ ih =>
    refine .cons (h1.kept hg ?_) (ih fun u hu => hne u (List.mem_cons_of_mem _ hu))
    cases hq : v.ownBlock with
    | none => exact .inl rfl
    | some g => exact .inr (fun e => hne v (List.mem_cons_self ..) g hq e.symm)
theorem Owns.mono {w : World} {base base' : Nat} {vs : List Value} {L : List (List UInt8)} (h : Owns w base vs L) (hb : base' ≤ base) : Owns w base' vs L := by
  induction h with
  | nil => exact .nil
  | cons h1 _ ih => exact .cons (h1.mono hb) ih
theorem Owns.sls {w : World} {base : Nat} {vs : List Value} {L : List (List UInt8)} (h : Owns w base vs L) : Sls w vs L := by
  induction h with
  | nil => exact .nil
  | cons h1 _ ih => exact .cons h1.sl ih
theorem Owns.lives {w : World} {base : Nat} {vs : List Value} {L : List (List UInt8)} (h : Owns w base vs L) : ∀ u ∈ vs, ∀ g, u.ownBlock = some g → base ≤ g ∧ g < w.heap.size := by
  induction h with
  | nil => intro u hu; cases hu
  | cons h1 _ ih =>
    intro u hu
    rcases List.mem_cons.1 hu with rfl | hu
    · exact fun g hg => ⟨h1.lt g hg, h1.lives g hg⟩
    · exact ih u hu
theorem Owns.set {w : World} {base : Nat} {vs : List Value} {L : List (List UInt8)} (h : Owns w base vs L) {v : Value} {l : List UInt8} (hv : Own w base 1 v l.length (bvs l)) : ∀ i, Owns w base (vs.set i v) (L.set i l) := by
  induction h with
  | nil => intro i; simp; exact .nil
  | cons h1 h2 ih =>
    intro i
    cases i with
    | zero => exact .cons hv h2
    | succ i => exact .cons h1 (ih i)
theorem Owns.app {w : World} {base : Nat} {vs us : List Value} {L M : List (List UInt8)} (h : Owns w base vs L) (k : Owns w base us M) : Owns w base (vs ++ us) (L ++ M) := by
  induction h with
  | nil => exact k
  | cons h1 _ ih => exact .cons h1 ih
theorem Owns.nils (w : World) (base : Nat) : ∀ n, Owns w base (List.replicate n (.slice none 0 0)) (List.replicate n [])
  | 0 => .nil
  | n + 1 => .cons (Own.nil w base 1) (Owns.nils w base n)
/-- an image in new memory: the slices lie apart from that of their headers -/
structure Imgs (w : World) (base : Nat) (v : Value) (n : Nat) (us : List Value) (L : List (List UInt8)) : Prop where
  own : Own w base 1 v n us
  ins : Owns w base us L
  sep : ∀ u ∈ us, ∀ g, u.ownBlock = some g → v.ownBlock ≠ some g
theorem Imgs.below {w w' : World} {base n : Nat} {v : Value} {us : List Value} {L : List (List UInt8)} (h : Imgs w base v n us L) (hb : Below w.heap.size w w') : Imgs w' base v n us L := ⟨h.own.below hb, h.ins.stay hb, h.sep⟩
theorem Imgs.mono {w : World} {base base' n : Nat} {v : Value} {us : List Value} {L : List (List UInt8)} (h : Imgs w base v n us L) (hb : base' ≤ base) : Imgs w base' v n us L := ⟨h.own.mono hb, h.ins.mono hb, h.sep⟩
theorem Imgs.imr {w : World} {base n : Nat} {v : Value} {us : List Value} {L : List (List UInt8)} (h : Imgs w base v n us L) : ImR w v L := by
  have h1 := h.own.1
  have h2 := h.ins.sls.len
  have h3 := h.own.sl
  have : n = L.length := by omega
  subst this
  exact ⟨us, h3, h.ins.sls⟩
theorem mem_set {us : List Value} {i : Nat} {v u : Value} (h : u ∈ us.set i v) : u ∈ us ∨ u = v := List.mem_or_eq_of_mem_set h
/-- one more behind it -/
theorem Imgs.push {w w' : World} {base n : Nat} {v v' u : Value} {us : List Value} {L : List (List UInt8)} {l : List UInt8} (h : Imgs w base v n us L) (hu : Own w base 1 u l.length (bvs l)) (hs : ∀ g, u.ownBlock = some g → v.ownBlock ≠ some g)
    (ho : Own w' base 1 v' (n + 1) (us ++ [u])) (hg : w.grownBy w' v.ownBlock) (hor : (∃ g off cap, v = .slice (some ⟨g, off, none⟩) n cap ∧ v' = .slice (some ⟨g, off, none⟩) (n + 1) cap) ∨ ((∀ g, v'.ownBlock = some g → w.heap.size ≤ g) ∧ w.grownBy w' none)) :
    Imgs w' base v' (n + 1) (us ++ [u]) (L ++ [l]) := by
  have hv : ∀ g, v'.ownBlock = some g → v.ownBlock = some g ∨ w.heap.size ≤ g := by
    intro g hgv
    rcases hor with ⟨g', off, cap, e1, e2⟩ | ⟨h1, _⟩
    · left
      rw [e1]; subst e2
      simp [Value.ownBlock] at hgv ⊢
      exact hgv
    · exact .inr (h1 g hgv)
  have hall : Owns w base (us ++ [u]) (L ++ [l]) := h.ins.app (.cons hu .nil)
  have hsep : ∀ x ∈ us ++ [u], ∀ g, x.ownBlock = some g → v.ownBlock ≠ some g := by
    intro x hx
    rcases List.mem_append.1 hx with h1 | h1
    · exact h.sep x h1
    · rw [List.mem_singleton.1 h1]; exact hs
  refine ⟨ho, hall.kept hg hsep, fun x hx g hgx e => ?_⟩
  rcases hv g e with h1 | h1
  · exact hsep x hx g hgx h1
  · have := (hall.lives x hx g hgx).2; omega
/-- one in the place of another -/
theorem Imgs.put {w w' : World} {base n : Nat} {v u : Value} {us : List Value} {L : List (List UInt8)} {l : List UInt8} (h : Imgs w base v n us L) (hu : Own w base 1 u l.length (bvs l)) (hs : ∀ g, u.ownBlock = some g → v.ownBlock ≠ some g) (i : Nat)
    (ho : Own w' base 1 v n (us.set i u)) (hg : w.grownBy w' v.ownBlock) : Imgs w' base v n (us.set i u) (L.set i l) := by
  have hall := h.ins.set hu i
  have hsep : ∀ x ∈ us.set i u, ∀ g, x.ownBlock = some g → v.ownBlock ≠ some g := by
    intro x hx
    rcases mem_set hx with h1 | h1
    · exact h.sep x h1
    · rw [h1]; exact hs
  exact ⟨ho, hall.kept hg hsep, hsep⟩
def partL (L : List (List UInt8)) (i : Nat) : List (List UInt8) := L.take i ++ List.replicate (L.length - i) []
theorem partL_zero (L : List (List UInt8)) : partL L 0 = List.replicate L.length [] := by simp [partL]
theorem partL_all (L : List (List UInt8)) : partL L L.length = L := by simp [partL]
theorem partL_next (L : List (List UInt8)) (i : Nat) (hi : i < L.length) : (partL L i).set i (L.getD i []) = partL L (i + 1) := by
  unfold partL
  rw [List.set_append_right _ _ (by simp; omega), List.length_take, Nat.min_eq_left (by omega), Nat.sub_self]
  obtain ⟨k, hk⟩ : ∃ k, L.length - i = k + 1 := ⟨L.length - i - 1, by omega⟩
  rw [hk, List.replicate_succ, List.set_cons_zero, show L.length - (i + 1) = k by omega, List.take_succ_eq_append_getElem hi, List.append_assoc]
  simp [List.getD_eq_getElem?_getD, List.getElem?_eq_getElem hi]
theorem getD_mem {L : List (List UInt8)} {i : Nat} (hi : i < L.length) : L.getD i [] ∈ L := by
  rw [List.getD_eq_getElem?_getD, List.getElem?_eq_getElem hi]
  exact List.getElem_mem hi
set_option maxHeartbeats 1000000 in
theorem clones_any (a : Option Addr) (n c : Nat) (L : List (List UInt8)) (w : World) (hl : ImR w (.slice a n c) L) (hn : n ≤ 1048576) (hL : ∀ l ∈ L, l.length ≤ 1048576) :
    Calls Try.prog 36 #[.slice a n c] w fun e w' => ∃ v us, e = .returned v ∧ Imgs w' w.heap.size v n us L ∧ Below w.heap.size w w' := by
  have HN := Lib.hid hl.len.1
  have HL := Lib.hid hL
  clear hL
  go_enter Try.func36, Try.ntmps36
  go_wp2_with (first | (at_make; refine wpL_make etBB rfl rfl _ _ rfl n w.heap.size rfl rfl rfl rfl (by omega) (by simp [maxLen]; omega) (Nat.le_refl _) ?_; rintro v2 w2 hown hb ⟨g, off, rfl, hg⟩; have HO := Lib.hid hown; have HB := Lib.hid hb; have HG := Lib.hid hg; clear hown hb hg))
  obtain ⟨W2, hW2⟩ : ∃ W2 : World, W2 = w2 := ⟨_, rfl⟩
  go_loopw [11] (fun v11 wr => ∃ i us, i ≤ n ∧ v11 = .int .i64 (i : Nat) ∧ Hid (Imgs wr w.heap.size (.slice (some ⟨g, off, none⟩) n n) n us (partL L i)) ∧ Below w.heap.size w wr ∧ g < wr.heap.size) (fun v11 _ => n - (intOf v11).toNat)
  case atStart =>
    refine ⟨0, List.replicate n (.slice none 0 0), Nat.zero_le _, rfl, Lib.hid ?_, HB.out, HO.out.lives g rfl⟩
    rw [partL_zero, HN.out]
    exact ⟨HO.out, Owns.nils _ _ _, fun u hu g hg => by rw [List.eq_of_mem_replicate hu] at hg; simp [Value.ownBlock] at hg⟩
  case round =>
    obtain ⟨i, us, hi, rfl, HI, hb, hgl⟩ := hrel
    by_cases hin : i = n
    · subst hin
      go_wp2_with fail
      go_ret
      refine ⟨_, us, rfl, ?_, hb⟩
      have := HI.out
      rwa [← HN.out, partL_all, HN.out] at this
    · have hlt : i < n := by omega
      have hlt' : (i : Int) < n := by omega
      obtain ⟨g1, o1, av, cv, rfl, hc, hs⟩ := (hl.below hb).at i hlt
      have hle := HL.out _ (getD_mem (L := L) (i := i) (by rw [HN.out]; exact hlt))
      have HPN := Lib.hid (partL_next L i (by rw [HN.out]; exact hlt))
      generalize L.getD i [] = l at hc hs hle HPN
      go_wp2_with fail
      refine (clone_any av l.length cv l wr hs (by omega)).mono ?_
      rintro e w4 ⟨u, rfl, hou, hbu⟩
      obtain ⟨au, cu, rfl⟩ := hou.form
      have HI4 := Lib.hid (HI.out.below hbu)
      have hob := HI4.out.own
      have huL : us.length = n := by have := hob.1; omega
      go_wp2_with (refine wpL_storeOwn (g := 0) rfl _ _ _ rfl (v := .slice au l.length cu) rfl rfl rfl rfl (by kernel_rfl) hob i rfl (by omega) ?_; intro w5 hg5 ho5; have HG5 := Lib.hid hg5; have HO5 := Lib.hid ho5; clear hg5 ho5)
      have hb4 := hb.trans (hbu.mono hb.size)
      refine ⟨⟨i + 1, us.set i (.slice au l.length cu), hlt, by go_num, Lib.hid ?_, below_grown hb4 HG5.out HG.out hb4.size, Nat.lt_of_lt_of_le hgl (Nat.le_trans hbu.size HG5.out.size)⟩, by simp [intOf]; omega⟩
      rw [← HPN.out]
      refine HI4.out.put (hou.mono hb.size) (fun q hq e => ?_) i HO5.out HG5.out
      have h1 := hou.lt q hq
      simp [Value.ownBlock] at e
      omega
end Go.Proofs.Ytchjfmgfoifbcaa
