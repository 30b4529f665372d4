/-
  Maps keyed by int whose elements are pointers, ints or nothing, as a list of keys and a function. No condition: plain laws over any program.
-/
import Derived.Maps.RangeWalk
import Derived.Maps.OwnSet
import Derived.Lib.SlKeysI
import Derived.Test.YtoddklfblcfoiaaDoorSep
namespace Go.Proofs.YtoddklfblcfoiaaDoor
open Go Go.RowKit Go.Maps
set_option linter.unusedVariables false
set_option linter.unusedSimpArgs false

/-- how an element reads -/
structure Elem (α : Type) where
  R : Value → Option (DataW Unit × List MemPlace)
  val : α → Value
  enc : α → DataW Unit
  z : α
  rd : ∀ a, R (val a) = some (enc a, [])
  inv : ∀ v y, R v = some y → ∃ a, v = val a ∧ y = (enc a, [])
  inj : ∀ a b, enc a = enc b → a = b
def ptrR : Value → Option (DataW Unit × List MemPlace)
  | .pointer none => some (.nil, [])
  | .pointer (some ⟨b, 0, none⟩) => some (.lit (.int .i64 b), [])
  | _ => none
def ptrV : Option Nat → Value
  | none => .pointer none
  | some b => .pointer (some ⟨b, 0, none⟩)
def ptrD : Option Nat → DataW Unit
  | none => .nil
  | some b => .lit (.int .i64 b)
/-- pointers at the head of a block, or nil -/
def ptrE : Elem (Option Nat) where
  R := ptrR
  val := ptrV
  enc := ptrD
  z := none
  rd := fun a => by cases a <;> rfl
  inv := fun v y h => by
    unfold ptrR at h
    split at h
    · cases h; exact ⟨none, rfl, rfl⟩
    · cases h; exact ⟨some _, rfl, rfl⟩
    · cases h
  inj := fun a b h => by
    cases a with
    | none => cases b with
      | none => rfl
      | some b => cases h
    | some a => cases b with
      | none => cases h
      | some b => simp only [ptrD] at h; injection h with h; injection h with _ h; rw [Int.ofNat.inj h]
def intR : Value → Option (DataW Unit × List MemPlace)
  | .int .i64 a => some (.lit (.int .i64 a), [])
  | _ => none
/-- ints -/
def intE : Elem Int where
  R := intR
  val := fun a => .int .i64 a
  enc := fun a => .lit (.int .i64 a)
  z := 0
  rd := fun a => rfl
  inv := fun v y h => by
    unfold intR at h
    split at h
    · cases h; exact ⟨_, rfl, rfl⟩
    · cases h
  inj := fun a b h => by injection h with h; injection h
/-- nothing -/
def unitE : Elem Unit where
  R := unitElem
  val := fun _ => .agg #[]
  enc := fun _ => .agg []
  z := ()
  rd := fun _ => unitElem_mk
  inv := fun v y h => ⟨(), unitElem_inv h⟩
  inj := fun _ _ _ => rfl
def zkey (k : Int) : Lit := .int .i64 k
def upd {α : Type} (f : Int → α) (k : Int) (a : α) : Int → α := fun x => if x = k then a else f x
theorem upd_same {α : Type} (f : Int → α) (k : Int) (a : α) : upd f k a k = a := if_pos rfl
theorem upd_other {α : Type} {f : Int → α} {k x : Int} {a : α} (h : x ≠ k) : upd f k a x = f x := if_neg h
def putK (ks : List Int) (k : Int) : List Int := if k ∈ ks then ks else ks ++ [k]
theorem mem_putK {ks : List Int} {k x : Int} : x ∈ putK ks k ↔ x ∈ ks ∨ x = k := by
  unfold putK
  split
  · constructor
    · exact .inl
    · rintro (h | rfl)
      · exact h
      · assumption
  · simp
theorem putK_nodup {ks : List Int} (h : ks.Nodup) (k : Int) : (putK ks k).Nodup := by
  unfold putK
  split
  · exact h
  · rename_i hk
    exact List.nodup_append.2 ⟨h, by simp, fun a ha b hb => by rw [List.mem_singleton.1 hb]; rintro rfl; exact hk ha⟩
theorem zkey_inj {a b : Int} (h : zkey a = zkey b) : a = b := by unfold zkey at h; injection h
theorem zkey_ne {a b : Int} (h : a ≠ b) : zkey a ≠ zkey b := fun e => h (zkey_inj e)
theorem zkey_lit (k : Int) : WideAt.IsKeyLit (zkey k) := trivial

variable {α : Type} {E : Elem α} {P : Program} {K : TypeId} {w w' : World} {b : Nat} {ks : List Int} {f : Int → α}
/-- block b is a map whose keys are ks, and whose elements are told by f -/
def MapIs (E : Elem α) (P : Program) (K : TypeId) (w : World) (b : Nat) (ks : List Int) (f : Int → α) : Prop :=
  ∃ D, w.ownsMap P K E.R b ks.length D ∧ Maps.size D = ks.length ∧ ks.Nodup ∧ (∀ k, Maps.has D (zkey k) = decide (k ∈ ks)) ∧ ∀ k, D.atKey (zkey k) (E.enc E.z) = E.enc (f k)
theorem MapIs.lt (h : MapIs E P K w b ks f) : b < w.heap.size := by obtain ⟨D, h, _⟩ := h; exact h.lt
theorem MapIs.nodup (h : MapIs E P K w b ks f) : ks.Nodup := by obtain ⟨D, _, _, h, _⟩ := h; exact h
theorem owns_size {R : Value → Option (DataW Unit × List MemPlace)} {n : Nat} {D : DataW Unit} (h : w.ownsMap P K R b n D) : w.ownsMap P K R b (Maps.size D) D := by
  obtain ⟨es, clock, hb, F, hs, rfl⟩ := h
  exact ⟨es, clock, hb, F, by simp [Maps.size, length_sorted], rfl⟩
theorem MapIs.at (h : MapIs E P K w b ks f) {k : Int} (hk : k ∉ ks) : f k = E.z := by
  obtain ⟨D, _, _, _, h1, h2⟩ := h
  have h3 := h1 k
  rw [decide_eq_false hk] at h3
  have h4 := h2 k
  rw [atKey_of_not_has h3] at h4
  exact (E.inj _ _ h4).symm
theorem MapIs.kept {row : Option Nat} (h : MapIs E P K w b ks f) (hg : w.grownBy w' row) (hne : some b ≠ row) : MapIs E P K w' b ks f := by
  obtain ⟨D, h1, h2⟩ := h
  exact ⟨D, h1.kept hg hne, h2⟩
theorem MapIs.mods {Q : Nat → Prop} (h : MapIs E P K w b ks f) (hm : Mods Q w w') (hn : ¬ Q b) : MapIs E P K w' b ks f := by
  have hlt := h.lt
  obtain ⟨D, ⟨es, clock, hb, r⟩, h2⟩ := h
  exact ⟨D, ⟨es, clock, (hm.block b hlt hn).trans hb, r⟩, h2⟩
theorem MapIs.below (h : MapIs E P K w b ks f) (hb : Below w.heap.size w w') : MapIs E P K w' b ks f := h.mods (Mods.fresh hb (fun _ => False)) (fun h => h)
theorem MapIs.made (E : Elem α) (P : Program) (K : TypeId) (w : World) : MapIs E P K (w.alloc (.map #[] 0)) w.heap.size [] (fun _ => E.z) :=
  ⟨.map [], World.ownsMap_made w P K E.R, rfl, List.nodup_nil, fun k => rfl, fun k => rfl⟩
theorem MapIs.congr {g : Int → α} (h : MapIs E P K w b ks f) (e : ∀ k, g k = f k) : MapIs E P K w b ks g := by
  have : g = f := funext e
  rw [this]; exact h
theorem key_int (hK : P.underlying K = some (.int .i64)) {k : Int} (hk : (Lit.int .i64 k).wf = true) : keyOf P K (.int .i64 k) = some (zkey k) := keyOf_int_mk hK hk
theorem wf_lit {k : Int} (h0 : -9223372036854775808 ≤ k) (h1 : k ≤ 9223372036854775807) : (Lit.int .i64 k).wf = true := WalkArith.wf_i64 ⟨h0, h1⟩

/-! ### runs -/
theorem MapIs.look (h : MapIs E P K w b ks f) {t e : TypeId} (hK : P.underlying K = some (.int .i64)) (ht : P.underlying t = some (.map K e)) (hz : (zeroValue e).run P w = .ok (E.val E.z) w) {k : Int} (hk : (Lit.int .i64 k).wf = true) :
    (Instr.lookup t (.map (some b)) (.int .i64 k) false).run P w = .ok (E.val (f k)) w := by
  obtain ⟨D, h1, _, _, _, h5⟩ := h
  obtain ⟨v, ps, hrun, hv⟩ := h1.lookup (int_keyed hK) ht hz (E.rd E.z) (key_int hK hk)
  rw [h5 k] at hv
  obtain ⟨a, rfl, ha⟩ := E.inv _ _ hv
  rw [hrun]
  have := E.inj _ _ (congrArg Prod.fst ha)
  rw [this]
theorem MapIs.look_ok (h : MapIs E P K w b ks f) {t e : TypeId} (hK : P.underlying K = some (.int .i64)) (ht : P.underlying t = some (.map K e)) (hz : (zeroValue e).run P w = .ok (E.val E.z) w) {k : Int} (hk : (Lit.int .i64 k).wf = true) :
    (Instr.lookup t (.map (some b)) (.int .i64 k) true).run P w = .ok (.tuple #[E.val (f k), .bool (decide (k ∈ ks))]) w := by
  obtain ⟨D, h1, _, _, h4, h5⟩ := h
  obtain ⟨v, ps, hrun, hv⟩ := h1.look_ok (int_keyed hK) ht hz (E.rd E.z) (key_int hK hk)
  rw [h5 k] at hv
  obtain ⟨a, rfl, ha⟩ := E.inv _ _ hv
  have := E.inj _ _ (congrArg Prod.fst ha)
  rw [hrun, h4 k, this]
theorem MapIs.len (h : MapIs E P K w b ks f) {t e : TypeId} (ht : P.underlying t = some (.map K e)) (ty : TypeId) : (Builtin.len_ #[t] ty #[.map (some b)]).run P w = .ok (.int .i64 ks.length) w := by
  obtain ⟨D, h1, h2, _⟩ := h
  rw [h1.len ht ty, h2]
theorem MapIs.put_of {D : DataW Unit} (h1 : w.ownsMap P K E.R b ks.length D) (hK : P.underlying K = some (.int .i64)) (h2 : Maps.size D = ks.length) (h3 : ks.Nodup) (h4 : ∀ k, Maps.has D (zkey k) = decide (k ∈ ks)) (h5 : ∀ k, D.atKey (zkey k) (E.enc E.z) = E.enc (f k)) {n : Nat} {k : Int} {a : α}
    (h6 : w'.ownsMap P K E.R b n (D.put (zkey k) (E.enc a))) : MapIs E P K w' b (putK ks k) (upd f k a) := by
  have hT := h1.tidy (int_keyed hK)
  have hsz : Maps.size (D.put (zkey k) (E.enc a)) = (putK ks k).length := by
    rw [size_put hT, h4 k, h2]
    unfold putK
    by_cases hk : k ∈ ks
    · simp [hk]
    · simp [hk]
  have h7 := owns_size h6
  rw [hsz] at h7
  refine ⟨_, h7, hsz, putK_nodup h3 k, fun x => ?_, fun x => ?_⟩
  · by_cases hx : x = k
    · subst hx
      rw [has_put_same hT.isMap (zkey_lit x)]
      symm
      exact decide_eq_true (mem_putK.2 (.inr rfl))
    · rw [has_put_other (zkey_ne hx), h4 x]
      rw [Bool.eq_iff_iff]
      simp only [decide_eq_true_eq, mem_putK]
      exact ⟨.inl, fun h => h.resolve_right hx⟩
  · by_cases hx : x = k
    · subst hx
      rw [atKey_put_same hT.isMap (zkey_lit x), upd_same]
    · rw [atKey_put_other (zkey_ne hx), h5 x, upd_other hx]
theorem MapIs.del_of {D : DataW Unit} (h1 : w.ownsMap P K E.R b ks.length D) (hK : P.underlying K = some (.int .i64)) (h2 : Maps.size D = ks.length) (h3 : ks.Nodup) (h4 : ∀ k, Maps.has D (zkey k) = decide (k ∈ ks)) (h5 : ∀ k, D.atKey (zkey k) (E.enc E.z) = E.enc (f k)) {n : Nat} {k : Int}
    (h6 : w'.ownsMap P K E.R b n (D.del (zkey k))) : MapIs E P K w' b (ks.erase k) (upd f k E.z) := by
  have hT := h1.tidy (int_keyed hK)
  have hsz : Maps.size (D.del (zkey k)) = (ks.erase k).length := by
    have := size_del (k := zkey k) hT
    rw [h4 k, h2] at this
    by_cases hk : k ∈ ks
    · rw [List.length_erase_of_mem hk]
      simp only [hk, decide_true, if_true] at this
      omega
    · rw [List.erase_of_not_mem hk]
      simp only [hk, decide_false] at this
      simpa using this
  have h7 := owns_size h6
  rw [hsz] at h7
  refine ⟨_, h7, hsz, h3.erase k, fun x => ?_, fun x => ?_⟩
  · by_cases hx : x = k
    · subst hx
      rw [has_del_same]
      symm
      exact decide_eq_false (fun h => (List.Nodup.mem_erase_iff h3).1 h |>.1 rfl)
    · rw [has_del_other (zkey_ne hx), h4 x]
      rw [Bool.eq_iff_iff]
      simp only [decide_eq_true_eq, List.Nodup.mem_erase_iff h3]
      exact ⟨fun h => ⟨hx, h⟩, fun h => h.2⟩
  · by_cases hx : x = k
    · subst hx
      rw [atKey_del_same, upd_same]
    · rw [atKey_del_other (zkey_ne hx), h5 x, upd_other hx]
theorem MapIs.perm (h : MapIs E P K w b ks f) (hK : P.underlying K = some (.int .i64)) : ∃ D, w.ownsMap P K E.R b ks.length D ∧ Maps.size D = ks.length ∧ ks.Perm (intKeys D) := by
  obtain ⟨D, h1, h2, h3, h4, _⟩ := h
  obtain ⟨es, hD, hp, _⟩ := h1.entries (int_keyed hK)
  obtain ⟨es', hD', hko⟩ := h1.keysOf
  obtain rfl : es = es' := by rw [hD] at hD'; simpa using hD'
  subst hD
  exact ⟨_, h1, h2, perm_intKeys hp (fun p hp => by obtain ⟨v, hv⟩ := hko p hp; obtain ⟨x, _, hx, _⟩ := Maps.keyOf_i64 hK hv; exact ⟨x, hx⟩) h3 (fun x => by rw [show (Lit.int .i64 x) = zkey x from rfl, h4 x]; simp)⟩
theorem MapIs.wf (h : MapIs E P K w b ks f) (hK : P.underlying K = some (.int .i64)) : ∀ k ∈ ks, (Lit.int .i64 k).wf = true := fun k hk => by
  obtain ⟨D, h1, _, hp⟩ := h.perm hK
  exact intKeys_wf h1 hK k (hp.mem_iff.1 hk)

/-! ### at the operations -/
section
variable {ops : Array Oper} {rest : List Oper} {o : Oper} {a : Act} {Q : Exit → Act → World → Prop}
theorem wpL_look (hM : MapIs E P K w b ks f) (hK : P.underlying K = some (.int .i64)) {t e : TypeId} (ht : P.underlying t = some (.map K e)) (hz : ∀ w, (zeroValue e).run P w = .ok (E.val E.z) w) (hg : o.guard = none) (m x : Operand) (hop : o.op = Op.lookup t m x false)
    (hm : a.eval m = .map (some b)) {k : Int} (hx : a.eval x = .int .i64 k) (hk : (Lit.int .i64 k).wf = true) (h : wpList P ops Q rest (a.put o.dst (E.val (f k))) w) : wpList P ops Q (o :: rest) a w := by
  refine wpList_plain hg fun K' hK' => ?_
  unfold Oper.wp
  simp [execOp, hop, hm, hx, hM.look hK ht (hz w) hk, Result.andThen]
  exact hK' _ _ h
theorem wpL_lookok (hM : MapIs E P K w b ks f) (hK : P.underlying K = some (.int .i64)) {t e : TypeId} (ht : P.underlying t = some (.map K e)) (hz : ∀ w, (zeroValue e).run P w = .ok (E.val E.z) w) (hg : o.guard = none) (m x : Operand) (hop : o.op = Op.lookup t m x true)
    (hm : a.eval m = .map (some b)) {k : Int} (hx : a.eval x = .int .i64 k) (hk : (Lit.int .i64 k).wf = true) (h : wpList P ops Q rest (a.put o.dst (.tuple #[E.val (f k), .bool (decide (k ∈ ks))])) w) : wpList P ops Q (o :: rest) a w := by
  refine wpList_plain hg fun K' hK' => ?_
  unfold Oper.wp
  simp [execOp, hop, hm, hx, hM.look_ok hK ht (hz w) hk, Result.andThen]
  exact hK' _ _ h
theorem wpL_len (hM : MapIs E P K w b ks f) {t e : TypeId} (ht : P.underlying t = some (.map K e)) (hg : o.guard = none) (m : Operand) (hop : o.op = Op.call { callee := Callee.builtin Builtin.len, args := #[m], argTypes := #[t] })
    (hm : a.eval m = .map (some b)) (h : wpList P ops Q rest (a.put o.dst (.int .i64 ks.length)) w) : wpList P ops Q (o :: rest) a w := by
  refine wpList_plain hg fun K' hK' => ?_
  unfold Oper.wp
  simp [execOp, hop, resolve, invoke, builtin, hm, hM.len ht o.type, Result.andThen]
  exact hK' _ _ h
theorem wpL_put (hM : MapIs E P K w b ks f) (hK : P.underlying K = some (.int .i64)) {t e : TypeId} (ht : P.underlying t = some (.map K e)) (hn : ks.length < maxLen) (hg : o.guard = none) (m x v : Operand) (hop : o.op = Op.mapUpdate t m x v)
    (hm : a.eval m = .map (some b)) {k : Int} (hx : a.eval x = .int .i64 k) (hk : (Lit.int .i64 k).wf = true) (y : α) (hv : a.eval v = E.val y)
    (h : ∀ w', MapIs E P K w' b (putK ks k) (upd f k y) → w.grownBy w' (some b) → wpList P ops Q rest (a.put o.dst undef) w') : wpList P ops Q (o :: rest) a w := by
  obtain ⟨D, h1, h2, h3, h4, h5⟩ := hM
  exact wpList_mapUpdate_own w hg m x v t hop K e (int_keyed hK) ht E.R b ks.length D hm h1 hn _ _ _ hx hv (key_int hK hk) (E.enc y) [] (E.rd y) (fun w' h6 h7 => h w' (MapIs.put_of h1 hK h2 h3 h4 h5 h6) h7)
theorem wpL_del (hM : MapIs E P K w b ks f) (hK : P.underlying K = some (.int .i64)) {t e : TypeId} (ht : P.underlying t = some (.map K e)) (hg : o.guard = none) (m x : Operand) (hop : o.op = Op.call { callee := Callee.builtin Builtin.delete, args := #[m, x], argTypes := #[t, K] })
    (hm : a.eval m = .map (some b)) {k : Int} (hx : a.eval x = .int .i64 k) (hk : (Lit.int .i64 k).wf = true)
    (h : ∀ w', MapIs E P K w' b (ks.erase k) (upd f k E.z) → w.grownBy w' (some b) → wpList P ops Q rest (a.put o.dst (.tuple #[])) w') : wpList P ops Q (o :: rest) a w := by
  obtain ⟨D, h1, h2, h3, h4, h5⟩ := hM
  exact wpList_delete_own w hg m x t K hop e (int_keyed hK) ht E.R b ks.length D hm h1 _ _ hx (key_int hK hk) (fun w' h6 h7 => h w' (MapIs.del_of h1 hK h2 h3 h4 h5 h6) h7.grown)
/-! ### ranging -/
/-- r is an iterator over the map b; the keys in l are still to come -/
def RangeIs (E : Elem α) (P : Program) (K : TypeId) (w : World) (b r : Nat) (ks : List Int) (f : Int → α) (l : List Int) : Prop :=
  ∃ D left cnt, w.ranges P K E.R b r ks.length D left cnt ∧ Maps.size D = ks.length ∧ ks.Nodup ∧ (∀ k, Maps.has D (zkey k) = decide (k ∈ ks)) ∧ (∀ k, D.atKey (zkey k) (E.enc E.z) = E.enc (f k)) ∧ l.Nodup ∧ ∀ k, left (zkey k) = decide (k ∈ l)
theorem RangeIs.map {l : List Int} {r : Nat} (h : RangeIs E P K w b r ks f l) : MapIs E P K w b ks f := by
  obtain ⟨D, left, cnt, h1, h2, h3, h4, h5, _⟩ := h
  exact ⟨D, h1.owns, h2, h3, h4, h5⟩
theorem RangeIs.mods {l : List Int} {r : Nat} {Q : Nat → Prop} (h : RangeIs E P K w b r ks f l) (hm : Mods Q w w') (hb : ¬ Q b) (hr : ¬ Q r) : RangeIs E P K w' b r ks f l := by
  obtain ⟨D, left, cnt, h1, h2⟩ := h
  have hlr := h1.lt
  have hlb := h1.owns.lt
  refine ⟨D, left, cnt, ?_, h2⟩
  unfold World.ranges at h1 ⊢
  rw [hm.block b hlb hb, hm.block r hlr hr]
  exact h1
/-- 'range m' -/
theorem wpL_range (hM : MapIs E P K w b ks f) (hK : P.underlying K = some (.int .i64)) {t e : TypeId} (ht : P.underlying t = some (.map K e)) (hg : o.guard = none) (m : Operand) (hop : o.op = Op.range t m)
    (hm : a.eval m = .map (some b)) (h : ∀ w', RangeIs E P K w' b w.heap.size ks f ks → w.grownBy w' none → w'.heap.size = w.heap.size + 1 → wpList P ops Q rest (a.put o.dst (.pointer (some ⟨w.heap.size, 0, none⟩))) w') : wpList P ops Q (o :: rest) a w := by
  obtain ⟨D, h1, h2, h3, h4, h5⟩ := hM
  exact wpList_range_own w hg m t hop K e (int_keyed hK) ht E.R b ks.length D hm h1 (fun w' h6 h7 h8 => h w' ⟨D, _, _, h6, h2, h3, h4, h5, h3, h4⟩ h7 h8)
/-- the loop's step -/
theorem wpL_next {l : List Int} {r : Nat} (hM : RangeIs E P K w b r ks f l) (hK : P.underlying K = some (.int .i64)) (hg : o.guard = none) (it : Operand) (hop : o.op = Op.next it false) (hit : a.eval it = .pointer (some ⟨r, 0, none⟩))
    (hDone : l = [] → wpList P ops Q rest (a.put o.dst (.tuple #[.bool false])) w)
    (hMore : ∀ (x : Int) (w' : World), x ∈ l → x ∈ ks → (Lit.int .i64 x).wf = true → RangeIs E P K w' b r ks f (l.erase x) → w'.rangeLeft b r < w.rangeLeft b r → w.grownBy w' (some r) → w'.heap.size = w.heap.size →
      (Instr.entry (.pointer (some ⟨r, 0, none⟩))).run P w' = .ok (.tuple #[.int .i64 x, E.val (f x)]) w' → wpList P ops Q rest (a.put o.dst (.tuple #[.bool true, .int .i64 x, E.val (f x)])) w') : wpList P ops Q (o :: rest) a w := by
  obtain ⟨D, left, cnt, h1, h2, h3, h4, h5, h6, h7⟩ := hM
  refine wpList_next_ranges (α := Int) (β := α) w hg it hop K (int_keyed hK) E.R (fun x => .int .i64 x) E.val (fun key kl hkey => by obtain ⟨x, rfl, _⟩ := Maps.keyOf_int_inv hK hkey; exact ⟨x, rfl⟩) (fun v y hv => by obtain ⟨c, rfl, _⟩ := E.inv v y hv; exact ⟨c, rfl⟩)
    b r ks.length D left cnt hit h1 (fun _ hl => hDone ?_) (fun x c kl y w' cnt' hkey hlk hv hat hrg hlt hgr hsz hen => ?_)
  · cases l with
    | nil => rfl
    | cons x l =>
      have := h7 x
      rw [hl] at this
      simp at this
  · obtain ⟨x', ex, rfl, hwx⟩ := Maps.keyOf_int_inv hK hkey
    cases ex
    have hxl : x ∈ l := by
      have := h7 x
      rw [show zkey x = Lit.int .i64 x from rfl, hlk] at this
      exact of_decide_eq_true this.symm
    have hcf : c = f x := by
      have h8 := h5 x
      rw [show zkey x = Lit.int .i64 x from rfl, hat (E.enc E.z)] at h8
      rw [E.rd c] at hv
      cases hv
      exact E.inj _ _ h8
    subst hcf
    have hxk : x ∈ ks := by
      have hA : Maps.has D (zkey x) = true := by
        refine has_true_of_atKey (y := y.1) fun z => ?_
        exact hat z
      rw [h4 x] at hA
      exact of_decide_eq_true hA
    refine hMore x w' hxl hxk hwx ⟨D, _, cnt', hrg, h2, h3, h4, h5, h6.erase x, fun k => ?_⟩ (by rw [hrg.left_eq, h1.left_eq]; exact hlt) hgr hsz hen
    rw [h7 k]
    by_cases hkx : k = x
    · subst hkx
      rw [show (Lit.int .i64 k) = zkey k from rfl, WideAt.sameKey_self (zkey_lit k)]
      symm
      simp [List.Nodup.mem_erase_iff h6]
    · rw [show (Lit.int .i64 x) = zkey x from rfl, sameKey_ne (zkey_ne hkx)]
      rw [Bool.eq_iff_iff]
      simp [List.Nodup.mem_erase_iff h6, hkx]
/-- 'delete(m, k)' in the round -/
theorem wpL_delr {l : List Int} {r : Nat} (hM : RangeIs E P K w b r ks f l) (hK : P.underlying K = some (.int .i64)) {t e : TypeId} (ht : P.underlying t = some (.map K e)) (hg : o.guard = none) (m x : Operand) (hop : o.op = Op.call { callee := Callee.builtin Builtin.delete, args := #[m, x], argTypes := #[t, K] })
    (hm : a.eval m = .map (some b)) {k : Int} (hx : a.eval x = .int .i64 k) (hk : (Lit.int .i64 k).wf = true) (hkl : k ∉ l)
    (h : ∀ w', RangeIs E P K w' b r (ks.erase k) (upd f k E.z) l → w'.rangeLeft b r ≤ w.rangeLeft b r → w.grownBy w' (some b) → wpList P ops Q rest (a.put o.dst (.tuple #[])) w') : wpList P ops Q (o :: rest) a w := by
  obtain ⟨D, left, cnt, h1, h2, h3, h4, h5, h6, h7⟩ := hM
  refine wpList_delete_ranges w hg m x t K hop e (int_keyed hK) ht E.R b r ks.length D left cnt hm h1 _ _ hx (key_int hK hk) (fun w' cnt' h8 h9 h10 => ?_)
  obtain ⟨D', g1, g2, g3, g4, g5⟩ := MapIs.del_of h1.owns hK h2 h3 h4 h5 h8.owns
  have hD : D' = D.del (zkey k) := by
    obtain ⟨es, clock, hb, F, hs, hD⟩ := g1
    obtain ⟨es', clock', hb', F', hs', hD'⟩ := h8.owns
    rw [hb] at hb'
    cases hb'
    rw [hD, hD']
  subst hD
  refine h w' ⟨_, fun z => left z && !z.sameKey (zkey k), cnt', ?_, g2, g3, g4, g5, h6, fun y => ?_⟩ (by rw [h8.left_eq, h1.left_eq]; exact h9) h10.grown
  · obtain ⟨es, clock, since, seen, c0, q1, q2, q3, q4⟩ := h8
    refine ⟨es, clock, since, seen, c0, q1, q2, ?_, q4⟩
    rw [← g2]
    rw [q4.1]
    simp [Maps.size, length_sorted]
  · show (left (zkey y) && !(zkey y).sameKey (zkey k)) = _
    rw [h7 y]
    by_cases hyk : y = k
    · subst hyk
      simp [hkl]
    · rw [sameKey_ne (zkey_ne hyk)]
      simp
end
end Go.Proofs.YtoddklfblcfoiaaDoor
