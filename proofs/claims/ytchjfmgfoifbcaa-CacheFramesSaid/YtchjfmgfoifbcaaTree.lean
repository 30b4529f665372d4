/-
  A region that draws its order, in which operations that turn the world may come in several orders: a tree of orders. Worlds that differ in marks alone. No condition: laws of the walk.
-/
import Derived.Test.YtchjfmgfoifbcaaForkB
namespace Go.Proofs.Ytchjfmgfoifbcaa
open Go.RowKit
set_option linter.unusedVariables false
set_option linter.unusedSimpArgs false

/-! ### the same blocks, but for marks -/
def Mark (o o' : Option Obj) : Prop := o' = o ∨ ∃ c t f f', o = some (.cells c t f) ∧ o' = some (.cells c t f')
theorem Mark.trans {a b c : Option Obj} (h : Mark a b) (k : Mark b c) : Mark a c := by
  rcases h with rfl | ⟨c1, t1, f1, f2, rfl, rfl⟩
  · exact k
  · rcases k with rfl | ⟨c2, t2, f3, f4, h1, rfl⟩
    · exact .inr ⟨_, _, _, _, rfl, rfl⟩
    · cases h1; exact .inr ⟨_, _, _, _, rfl, rfl⟩
structure RbF (w w' : World) : Prop where
  size : w.heap.size ≤ w'.heap.size
  block : ∀ k, k < w.heap.size → Mark w.heap[k]? w'.heap[k]?
theorem RbF_refl (w : World) : RbF w w := ⟨Nat.le_refl _, fun _ _ => .inl rfl⟩
theorem RbF_trans (x y z : World) (h : RbF x y) (k : RbF y z) : RbF x z := ⟨Nat.le_trans h.size k.size, fun i hi => (h.block i hi).trans (k.block i (Nat.lt_of_lt_of_le hi h.size))⟩
theorem RbF.of {w w' : World} (h : Below w.heap.size w w') : RbF w w' := ⟨h.size, fun k hk => .inl (h.block k hk)⟩
theorem RbF.cell {w w' : World} (h : RbF w w') {b o : Nat} {v : Value} (hc : w.cell? ⟨b, o, none⟩ = some v) : w'.cell? ⟨b, o, none⟩ = some v := by
  have hb := lt_of_cell hc
  rcases h.block b hb with e | ⟨c, t, f, f', e1, e2⟩
  · unfold World.cell? at hc ⊢
    simp only at hc ⊢
    rw [e]; exact hc
  · unfold World.cell? at hc ⊢
    simp only at hc ⊢
    rw [e1] at hc
    rw [e2]
    exact hc
theorem laterF_cell {w : World} {b o : Nat} {v : Value} (h : w.cell? ⟨b, o, none⟩ = some v) : ∀ x : Later RbF w, x.w.cell? ⟨b, o, none⟩ = some v := fun x => x.later.cell h
instance laterRbF (w : World) : Nonempty (Later RbF w) := nonemptyLater RbF_refl w
/-- bytes of a literal are marked -/
theorem run_mark {P : Program} {w : World} {t e : TypeId} {C : Array Value} {n c g : Nat} (hb : w.heap[g]? = some (.cells C e)) (ht : P.underlying t = some (.slice e)) (he : P.underlying e = some (.int .u8)) :
    ∃ w', (convert t t (.slice (some ⟨g, 0, none⟩) n c)).run P w = .ok (.slice (some ⟨g, 0, none⟩) n c) w' ∧ w'.heap[g]? = some (.cells C e (C.size, C.size + 1)) ∧ (∀ k, k ≠ g → w'.heap[k]? = w.heap[k]?) ∧ w'.heap.size = w.heap.size ∧ w'.os = w.os ∧ w'.tape = w.tape ∧ w'.output = w.output := by
  have hsh : w.shape? g = some (e, C.size) := by
    unfold World.shape?
    rw [hb]
  have hg : g < w.heap.size := (Array.getElem?_eq_some_iff.1 hb).1
  refine ⟨w.freeze ⟨g, C.size, none⟩ 1, ?_, ?_, ?_, ?_, ?_, ?_, ?_⟩
  · simp [convert, run_underlying ht, run_underlying he, markStringish, hsh]
  · unfold World.freeze
    rw [if_neg (by decide)]
    show (w.heap.modify g _)[g]? = _
    rw [Array.getElem?_modify, if_pos rfl, hb]
    rfl
  · intro k hk
    unfold World.freeze
    rw [if_neg (by decide)]
    show (w.heap.modify g _)[k]? = _
    rw [Array.getElem?_modify, if_neg (fun e => hk e.symm)]
  · unfold World.freeze
    rw [if_neg (by decide)]
    exact Array.size_modify ..
  all_goals
    unfold World.freeze
    rw [if_neg (by decide)]
theorem wpL_mark {P : Program} {w : World} {ops : Array Oper} {rest : List Oper} {o : Oper} {a : Act} {Q : Exit → Act → World → Prop} (hgd : o.guard = none) (t e : TypeId) (x : Operand) (ho : o.op = .convert t t x) {C : Array Value} {n c g : Nat} (hx : a.eval x = .slice (some ⟨g, 0, none⟩) n c)
    (hb : w.heap[g]? = some (.cells C e)) (ht : P.underlying t = some (.slice e)) (he : P.underlying e = some (.int .u8))
    (h : ∀ w', w'.heap[g]? = some (.cells C e (C.size, C.size + 1)) → (∀ B, B ≤ g → Below B w w') → RbF w w' → wpList P ops Q rest (a.put o.dst (.slice (some ⟨g, 0, none⟩) n c)) w') : wpList P ops Q (o :: rest) a w := by
  refine wpList_plain hgd fun _ hK => ?_
  obtain ⟨w', hrun, h1, h2, h3, h4, h5, h6⟩ := run_mark (n := n) (c := c) hb ht he
  unfold Oper.wp
  simp [execOp, ho, hx, hrun, Result.andThen]
  refine hK _ _ (h w' h1 (fun B hB => ⟨h4, h5, h6, by rw [h3]; exact Nat.le_refl _, fun k hk => h2 k (by omega)⟩) ⟨by rw [h3]; exact Nat.le_refl _, fun k _ => ?_⟩)
  by_cases hk : k = g
  · subst hk
    exact .inr ⟨_, _, _, _, hb, h1⟩
  · exact .inl (h2 k hk)
theorem run_markB {P : Program} {w : World} {t e : TypeId} {C : Array Value} {n c g : Nat} (hb : w.heap[g]? = some (.cells C e)) (ht : P.underlying t = some (.slice e)) (he : P.underlying e = some (.int .u8)) :
    ∃ w', (convert t t (.slice (some ⟨g, 0, none⟩) n c)).run P w = .ok (.slice (some ⟨g, 0, none⟩) n c) w' ∧ w'.heap[g]? = some (.cells C e (C.size, C.size + 1)) ∧ (∀ B, B ≤ g → Below B w w') ∧ RbF w w' := by
  obtain ⟨w', hrun, h1, h2, h3, h4, h5, h6⟩ := run_mark (n := n) (c := c) hb ht he
  refine ⟨w', hrun, h1, fun B hB => ⟨h4, h5, h6, by rw [h3]; exact Nat.le_refl _, fun k hk => h2 k (by omega)⟩, ⟨by rw [h3]; exact Nat.le_refl _, fun k _ => ?_⟩⟩
  by_cases hk : k = g
  · subst hk
    exact .inr ⟨_, _, _, _, hb, h1⟩
  · exact .inl (h2 k hk)
theorem Sl.marked {w : World} {g : Nat} {l : List UInt8} {e : TypeId} {fr : Nat × Nat} (h : w.heap[g]? = some (.cells (bvs l).toArray e fr)) {n : Nat} (hn : l.length = n) (hm : n ≤ maxLen) : Sl w 1 (.slice (some ⟨g, 0, none⟩) n n) n (bvs l) := by
  refine ⟨by rw [bvs_length, Nat.mul_one]; exact hn, _, _, rfl, Nat.le_refl _, hm, (fun e => by cases e), fun j u hu => ⟨g, 0, rfl, ?_⟩⟩
  unfold World.cell?
  simp only
  rw [h]
  simpa using hu

/-! ### the tree -/
inductive Tree
  | leaf (idx : List (Nat × Nat))
  | node (idx : List (Nat × Nat)) (x : Nat) (tx : Tree) (y : Nat) (ty : Tree)
variable {P : Program} {md : Region.Mode} {ops : Array Oper} {R : World → World → Prop} {Q : Exit → Act → World → Prop}
def Tree.len : Tree → Nat
  | .leaf idx => idx.length
  | .node idx _ tx _ _ => idx.length + (1 + tx.len)
def Tree.ok (md : Region.Mode) (ops : Array Oper) : Tree → Array Bool → Bool
  | .leaf idx, listed => canonB md ops idx listed && idx.all (fun t => t.1 != 2) && idx.all (fun t => Nat.blt t.2 ops.size)
  | .node idx x tx y ty, listed => preB2 md ops idx listed && Region.ready md ops (afterL idx listed) == [x, y] && tx.ok md ops ((afterL idx listed).setIfInBounds x true) && ty.ok md ops ((afterL idx listed).setIfInBounds y true)
      && tx.len == ty.len && idx.all (fun t => Nat.blt t.2 ops.size) && Nat.blt x ops.size && Nat.blt y ops.size
def wpTree (P : Program) (L : List Oper) (R : World → World → Prop) (Q : Act → World → Prop) : Tree → Act → World → Prop
  | .leaf idx, a, w => wpCan P L.toArray R Q (pickO L idx) a w
  | .node idx x tx y ty, a, w => wpCan P L.toArray R (fun a w => wpCan P L.toArray R (wpTree P L R Q tx) (pickO L [(1, x)]) a w ∧ wpCan P L.toArray R (wpTree P L R Q ty) (pickO L [(1, y)]) a w) (pickO L idx) a w
theorem wpOp_pivot2 (hrefl : ∀ x, R x x) {T : Nat → Bool} {j : Nat} {o : Oper} {K K' : Act → World → Prop} {a : Act} {w : World} (ho : ops[j]? = some o)
    (hK : ∀ a w, K' a w → K a w)
    (h : wpCan P ops R K' [(1, o)] a w) : wpOp P ops (QN Q) j (fun a' w' => (T j = true ∨ R w w') ∧ K a' w') a w := by
  unfold wpOp
  simp only [ho]
  unfold wpCan at h
  split
  · rename_i hw
    rw [if_pos hw] at h
    exact .inl (wp_only (Oper.wp_mono (fun a' w' hh => ⟨.inr (hh.1 rfl), hK _ _ (by have := hh.2; unfold wpCan at this; exact this)⟩) h))
  · rename_i hw
    rw [if_neg hw] at h
    exact ⟨.inr (hrefl w), hK _ _ (by unfold wpCan at h; exact h)⟩
theorem pickO_len (L : List Oper) : ∀ q : List (Nat × Nat), (pickO L q).length = q.length
  | [] => rfl
  | (k, i) :: q => by simp [pickO, pickO_len L q]
theorem wpAnyR_tree (hrefl : ∀ x, R x x) (ht : ∀ x y z, R x y → R y z → R x z) {L : List Oper} (hs : Region.noSelect L.toArray = true) : ∀ (t : Tree) (listed : Array Bool) (a : Act) (w : World), Closed md L.toArray listed → t.ok md L.toArray listed = true →
    wpTree P L R (fun a w => QN Q .normal a w) t a w → wpAnyR P md L.toArray R (fun _ => false) (QN Q) t.len listed a w
  | .leaf idx, listed, a, w, hcl, hok, h => by
    simp only [Tree.ok, Bool.and_eq_true] at hok
    have := wpAnyR_can (P := P) (Q := Q) (T := fun _ => false) hrefl ht hs (pickO L idx) idx listed a w hcl (fun _ _ _ j hj => by cases hj) (fun x hx h2 => by
      have := List.all_eq_true.1 hok.1.2 x hx
      rw [h2] at this
      simp at this) (pickO_ok L idx (by simpa using hok.2)) hok.1.1 h
    rw [pickO_len] at this
    exact this
  | .node idx x tx y ty, listed, a, w, hcl, hok, h => by
    simp only [Tree.ok, Bool.and_eq_true, beq_iff_eq] at hok
    obtain ⟨⟨⟨⟨⟨⟨⟨hpre, hrd⟩, hox⟩, hoy⟩, hlen⟩, hI⟩, hx⟩, hy⟩ := hok
    have key := wpAnyR_pre2 (P := P) (Q := Q) (T := fun _ => false) (fuel := 1 + tx.len) hrefl ht hs (pickO L idx) idx listed a w hcl (fun _ _ _ j hj => by cases hj) (pickO_ok L idx (by simpa using hI)) hpre
    rw [pickO_len] at key
    refine key (wpCan_mono (fun a w hh hcl => ?_) _ _ _ h)
    rw [Nat.add_comm 1 tx.len]
    refine ⟨fun he => (by rw [hrd] at he; cases he), fun j hj => ?_⟩
    rw [hrd] at hj
    have hmx : x ∈ Region.ready md L.toArray (afterL idx listed) := by rw [hrd]; simp
    have hmy : y ∈ Region.ready md L.toArray (afterL idx listed) := by rw [hrd]; simp
    have hopx : L.toArray[x]? = some (L.getD x default) := by
      have h9 : x < L.length := by simpa [Nat.blt_eq] using hx
      simp [List.getD_eq_getElem?_getD, List.getElem?_eq_getElem h9]
    have hopy : L.toArray[y]? = some (L.getD y default) := by
      have h9 : y < L.length := by simpa [Nat.blt_eq] using hy
      simp [List.getD_eq_getElem?_getD, List.getElem?_eq_getElem h9]
    rcases List.mem_cons.1 hj with rfl | hj
    · exact wpOp_pivot2 (P := P) (Q := Q) (T := fun _ => false) hrefl hopx (fun a w hk => wpAnyR_tree hrefl ht hs tx _ a w (hcl.set hmx) hox hk) hh.1
    · obtain rfl : j = y := by simpa using hj
      exact wpOp_pivot2 (P := P) (Q := Q) (T := fun _ => false) hrefl hopy (fun a w hk => by
        have := wpAnyR_tree hrefl ht hs ty _ a w (hcl.set hmy) hoy hk
        rw [← hlen] at this
        exact this) hh.2
theorem wp_region_tree {P : Program} {id : Nat} {Q : Exit → Act → World → Prop} {a : Act} {w : World} (R : World → World → Prop) (hrefl : ∀ x, R x x) (ht : ∀ x y z, R x y → R y z → R x z) (t : Tree) {L : List Oper} (hm : P.follows .mixedOrders = true)
    (hB : (Region.noSelect L.toArray && t.ok .any L.toArray (Array.replicate L.toArray.size false) && t.len == L.toArray.size) = true)
    (h : wpTree P L R (fun a w => Q .normal a w) t a w.drew) : (Code.region id L.toArray true).wp P Q a w := by
  simp only [Bool.and_eq_true, beq_iff_eq] at hB
  obtain ⟨⟨hs, hok⟩, hlen⟩ := hB
  refine Code.wp_mono QN.imp (wp_region_any hm (wpAny_of_R (R := R) (T := fun _ => false) _ _ _ _ ?_))
  rw [← hlen]
  refine wpAnyR_tree hrefl ht hs t _ a _ ?_ (by rw [hlen]; exact hok) h
  intro j o _ hl
  exfalso
  simp only [Array.getD_eq_getD_getElem?, Array.getElem?_replicate] at hl
  split at hl <;> simp at hl
end Go.Proofs.Ytchjfmgfoifbcaa
