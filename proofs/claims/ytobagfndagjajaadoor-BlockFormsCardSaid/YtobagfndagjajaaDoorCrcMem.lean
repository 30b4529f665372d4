/-
  Small laws on memory, for all walks of this seat: a slice that reads as a list of cells ('Sl'), append from such a slice onto one of the call's own, element types ('ET'). No condition: plain lemmas.
-/
import Derived.Test.YtobagfndagjajaaDoorRows
import Derived.WalkKit
import Derived.WalkSpells
import Derived.WalkLawsBesides
import Derived.Lib.Hide
import Derived.Laws.AppendOwnNone
import Derived.Laws.CopyOwn
import Derived.OneCell
import Derived.Laws.Tables
namespace Go.Proofs.YtobagfndagjajaaDoor.Crc
open Go.RowKit

structure ET (P : Program) (t e : TypeId) (z : Value) (size bytes : Nat) : Prop where
  und : P.underlying t = some (.slice e)
  info : (P.info? e).map (fun i => (i.zero, i.size, i.bytes)) = some (some z, size, bytes)
  cells : z.cells.size = size
  pos : 0 < size

/-- the slice value v, of m elements (of 'size' cells each), reads as the cells xs -/
def Sl (w : World) (size : Nat) (v : Value) (m : Nat) (xs : List Value) : Prop :=
  xs.length = m * size ∧ ∃ a c, v = .slice a m c ∧ m ≤ c ∧ c ≤ maxLen ∧ (a = none → c = 0) ∧
    ∀ j u, xs[j]? = some u → ∃ b off, a = some ⟨b, off, none⟩ ∧ w.cell? ⟨b, off + j, none⟩ = some u

theorem Sl.below {w w' : World} {size m : Nat} {v : Value} {xs : List Value} (h : Sl w size v m xs) (hb : Below w.heap.size w w') : Sl w' size v m xs := by
  obtain ⟨hl, a, c, rfl, h1, h2, h3, h4⟩ := h
  refine ⟨hl, a, c, rfl, h1, h2, h3, fun j u hu => ?_⟩
  obtain ⟨b, off, ha, hc⟩ := h4 j u hu
  exact ⟨b, off, ha, (hb.cell (p := ⟨b, off + j, none⟩) (World.block_lt_of_cell? w _ hc)).trans hc⟩

theorem add_eq (b off j : Nat) : (⟨b, off, none⟩ : Addr).add j = ⟨b, off + j, none⟩ := by unfold Addr.add; split <;> simp_all

theorem Sl.ofOwn {w : World} {base e size n : Nat} {v : Value} {xs : List Value} (h : w.ownsRow base e size v n xs) : Sl w size v n xs := by
  refine ⟨h.1, ?_⟩
  rcases h.2 with ⟨rfl, rfl⟩ | ⟨g, cap, cur, rfl, hb, hg, hnc, hcm, hcs, ht⟩
  · exact ⟨none, 0, rfl, by omega, by decide, fun _ => rfl, fun j u hu => by have := h.1; simp at this; subst this; simp at hu⟩
  · refine ⟨some ⟨g, 0, none⟩, cap, rfl, hnc, hcm, by simp, fun j u hu => ⟨g, 0, rfl, ?_⟩⟩
    have := World.ownsRow.cells (g := g) h rfl j u hu
    rwa [add_eq] at this

theorem wpL_append {P : Program} {w : World} {ops : Array Oper} {rest : List Oper} {o : Oper} {a : Act} {Q : Exit → Act → World → Prop} {t e : TypeId} {z : Value} {size bytes : Nat} (hT : ET P t e z size bytes)
    (hgd : o.guard = none) (s x : Operand) (ho : o.op = .call { callee := .builtin .append, args := #[s, x], argTypes := #[t, t] })
    {base : Nat} {v : Value} {n : Nat} {xs : List Value} (hown : w.ownsRow base e size v n xs) (hs : a.eval s = v)
    {vx : Value} {m : Nat} {news : List Value} (hsrc : Sl w size vx m news) (hx : a.eval x = vx) (h1 : ∀ u ∈ news, u.oneCell' = true)
    (hbytes : (n + m) * bytes ≤ 140737488355328) (h63 : n + m ≤ maxLen) (hbase : base ≤ w.heap.size)
    (h : ∀ v' w', w'.ownsRow base e size v' (n + m) (xs ++ news) → w.grownBy w' v.ownBlock → wpList P ops Q rest (a.put o.dst v') w') : wpList P ops Q (o :: rest) a w := by
  obtain ⟨i, hi, hz0, hz1, hz2⟩ := info_parts hT.info
  obtain ⟨hl, ad, c, rfl, hmc, hcm, hn, hc⟩ := hsrc
  cases ad with
  | none =>
    obtain rfl := hn rfl
    obtain rfl : m = 0 := by omega
    have : news = [] := List.eq_nil_of_length_eq_zero (by simpa using hl)
    subst this
    refine wpList_append_own_none hgd s x t ho base e i size hT.und hi v n xs hs hown hx ?_
    have := h v w (by simpa using hown) ⟨rfl, rfl, rfl, Nat.le_refl _, fun _ _ _ => rfl⟩
    simpa using this
  | some ad =>
    refine wpList_append_own w hgd s x t ho base e i z size bytes hT.und hi hz0 hz1 hz2 hT.cells hT.pos v n xs hs hown ad m c news hx hl ?_ h1 h63 hbytes hbase fun v' w' h1 h2 _ => h v' w' h1 h2
    intro j u hu
    obtain ⟨b, off, ha, hcell⟩ := hc j u hu
    obtain rfl := Option.some.inj ha
    rw [add_eq]; exact hcell

/-- bytes, as cells -/
def bvs (l : List UInt8) : List Value := l.map fun x => .int .u8 (x.toNat : Int)
theorem bvs_length (l : List UInt8) : (bvs l).length = l.length := by simp [bvs]
theorem bvs_append (l r : List UInt8) : bvs (l ++ r) = bvs l ++ bvs r := by simp [bvs]
theorem bvs_one (l : List UInt8) : ∀ u ∈ bvs l, u.oneCell' = true := by
  intro u hu
  obtain ⟨_, _, rfl⟩ := List.mem_map.1 hu
  rfl
theorem bvs_get (l : List UInt8) (j : Nat) (h : j < l.length) : (bvs l)[j]? = some (.int .u8 ((l.getD j 0).toNat : Int)) := by
  simp [bvs, h]

/-- what a loop over bytes wants of one of them -/
theorem Sl.byte {w : World} {a : Option Addr} {n c k : Nat} {l : List UInt8} (h : Sl w 1 (.slice a n c) n (bvs l)) (hk : k < n) :
    ∃ b off, a = some ⟨b, off, none⟩ ∧ w.cell? ⟨b, off + k, none⟩ = some (.int .u8 ((l.getD k 0).toNat : Int)) := by
  obtain ⟨hl, a', c', he, h1, h2, h3, h4⟩ := h
  cases he
  rw [bvs_length] at hl
  exact h4 k _ (bvs_get l k (by omega))
theorem Sl.len {w : World} {a : Option Addr} {n c : Nat} {l : List UInt8} (h : Sl w 1 (.slice a n c) n (bvs l)) : l.length = n ∧ n ≤ 9223372036854775807 := by
  obtain ⟨hl, a', c', he, h1, h2, h3, h4⟩ := h
  cases he
  rw [bvs_length] at hl
  exact ⟨by omega, by simp [maxLen] at h2; omega⟩
theorem Sl.form {w : World} {size m : Nat} {v : Value} {xs : List Value} (h : Sl w size v m xs) : ∃ a c, v = .slice a m c := by
  obtain ⟨_, a, c, rfl, _⟩ := h; exact ⟨a, c, rfl⟩

/-! ### A block that is known whole -/
def Row (w : World) (b : Nat) (e : TypeId) (l : List Value) : Prop := w.heap[b]? = some (.cells l.toArray e (0, 0))
theorem Row.cell {w : World} {b : Nat} {e : TypeId} {l : List Value} (h : Row w b e l) (j : Nat) : w.cell? ⟨b, j, none⟩ = l[j]? := by
  unfold Row at h; simp [World.cell?, h]
theorem Row.free {w : World} {b : Nat} {e : TypeId} {l : List Value} (h : Row w b e l) (j : Nat) : w.frozen? ⟨b, j, none⟩ = false := by
  unfold Row at h; simp [World.frozen?, h]
theorem Row.set {w : World} {b : Nat} {e : TypeId} {l : List Value} (h : Row w b e l) (j : Nat) (v : Value) : Row (w.setCell ⟨b, j, none⟩ v) b e (l.set j v) := by
  unfold Row at h ⊢
  simp only [World.setCell, Array.getElem?_modify, h]
  simp
theorem Row.lt {w : World} {b : Nat} {e : TypeId} {l : List Value} (h : Row w b e l) : b < w.heap.size := lt_of_block h
theorem Row.below {w w' : World} {B b : Nat} {e : TypeId} {l : List Value} (h : Row w b e l) (hb : Below B w w') (hlt : b < B) : Row w' b e l := (hb.block b hlt).trans h
theorem Row.other {w : World} {b : Nat} {e : TypeId} {l : List Value} (h : Row w b e l) {a : Addr} (hne : b ≠ a.block) (v : Value) : Row (w.setCell a v) b e l :=
  (heap_setCell_other w a b v hne).trans h
theorem Row.alloc {w : World} {b : Nat} {e : TypeId} {l : List Value} (h : Row w b e l) (o : Obj) : Row (w.alloc o) b e l := (Below.heap_alloc w o b h.lt).trans h
theorem Row.grown {w w' : World} {row : Option Nat} {b : Nat} {e : TypeId} {l : List Value} (h : Row w b e l) (hg : w.grownBy w' row) (hne : some b ≠ row) : Row w' b e l := (hg.block b h.lt hne).trans h
theorem Row.new (w : World) (l : List Value) (e : TypeId) : Row (w.alloc (.cells l.toArray e)) w.heap.size e l := heap_alloc_new _ _
theorem Row.setRow {w : World} {b : Nat} {e : TypeId} {l : List Value} (h : Row w b e l) (cs : List Value) : Row (w.setRow b cs.toArray) b e cs := setRow_heap w b _ cs.toArray e _ h

/-- an array or a struct, whole, into a block that is known whole -/
theorem wpL_storeRow {P : Program} {w : World} {ops : Array Oper} {rest : List Oper} {o : Oper} {a : Act} {Q : Exit → Act → World → Prop}
    (hgd : o.guard = none) (ty : TypeId) (x y : Operand) (ho : o.op = .store ty x y) {b : Nat} {e : TypeId} {old cs : List Value} (hx : a.eval x = .pointer (some ⟨b, 0, none⟩)) (hy : a.eval y = .agg cs.toArray)
    (hr : Row w b e old) (hi : (P.info? ty).map (·.size) = some cs.length) (hlen : old.length = cs.length) (h1 : cs.all (·.oneCell') = true)
    (h : ∀ w', w.grownBy w' (some b) → Row w' b e cs → wpList P ops Q rest (a.put o.dst undef) w') : wpList P ops Q (o :: rest) a w := by
  refine wpList_plain hgd fun _ hK => ?_
  unfold Oper.wp execOp
  have := run_storeVar_row (P := P) w b e ty old.toArray cs.toArray hr (by simpa using hi) (by simpa using hlen) (by simpa using h1)
  simp only [ho, hx, hy, Instr.storeAt, Instr.sureAddr, Sem.run_bind, Sem.run_pure, Result.andThen_ok, this]
  exact hK _ _ (h _ ⟨rfl, rfl, rfl, by simp, fun k _ hk => setRow_other w b k _ (fun e => hk (by simp [e]))⟩ (hr.setRow cs))
theorem wpL_loadRow {P : Program} {w : World} {ops : Array Oper} {rest : List Oper} {o : Oper} {a : Act} {Q : Exit → Act → World → Prop}
    (hgd : o.guard = none) (ty : TypeId) (x : Operand) (ho : o.op = .load ty x) {b : Nat} {e : TypeId} {cs : List Value} {d : TypeDesc} (hx : a.eval x = .pointer (some ⟨b, 0, none⟩))
    (hr : Row w b e cs) (hu : P.underlying ty = some d) (hd : (match d with | .struct _ | .array _ _ => true | _ => false) = true) (hi : (P.info? ty).map (·.size) = some cs.length)
    (h : wpList P ops Q rest (a.put o.dst (.agg cs.toArray)) w) : wpList P ops Q (o :: rest) a w :=
  wpList_load_row hgd ty x ho b hx e cs.toArray (0, 0) d hr hu hd (by simpa using hi) h
theorem below_grown {B b : Nat} {w0 w w' : World} (hb : Below B w0 w) (hg : w.grownBy w' (some b)) (h1 : B ≤ b) (h2 : B ≤ w.heap.size) : Below B w0 w' :=
  hb.grown hg h2 (fun k e => by cases e; exact h1)

theorem Sl.new (w : World) (l : List Value) (e : TypeId) (hm : l.length ≤ maxLen) : Sl (w.alloc (.cells l.toArray e)) 1 (.slice (some ⟨w.heap.size, 0, none⟩) l.length l.length) l.length l :=
  ⟨by simp, _, l.length, rfl, Nat.le_refl _, hm, by simp, fun j u hu => ⟨_, 0, rfl, by rw [(Row.new w l e).cell]; simpa using hu⟩⟩
theorem own_new (w : World) (l : List Value) (e : TypeId) {base : Nat} (hb : base ≤ w.heap.size) (hm : l.length ≤ maxLen) : (w.alloc (.cells l.toArray e)).ownsRow base e 1 (.slice (some ⟨w.heap.size, 0, none⟩) l.length l.length) l.length l := by
  have := World.ownsRow_lit (e := e) (size := 1) w l.toArray l.length hb hm (by simp)
  simpa using this
/-- an owned slice that holds something: its block -/
theorem own_open {w : World} {base e n : Nat} {v : Value} {xs : List Value} (h : w.ownsRow base e 1 v n xs) (hn : 0 < n) :
    ∃ g cap, v = .slice (some ⟨g, 0, none⟩) n cap ∧ base ≤ g ∧ g < w.heap.size ∧ n ≤ cap ∧ xs.length = n := by
  rcases h.2 with ⟨_, rfl⟩ | ⟨g, cap, cur, rfl, hb, hg, hnc, _⟩
  · omega
  · exact ⟨g, cap, rfl, hb, lt_of_block hg, hnc, by have := h.1; omega⟩
theorem own_form {w : World} {base e size n : Nat} {v : Value} {xs : List Value} (h : w.ownsRow base e size v n xs) : ∃ a c, v = .slice a n c := by
  rcases h.2 with ⟨rfl, rfl⟩ | ⟨g, cap, cur, rfl, _⟩ <;> exact ⟨_, _, rfl⟩
theorem own_below {w w' : World} {base e size n : Nat} {v : Value} {xs : List Value} (h : w.ownsRow base e size v n xs) (hb : Below w.heap.size w w') : w'.ownsRow base e size v n xs :=
  h.kept (row := none) ⟨hb.os, hb.tape, hb.output, hb.size, fun k hk _ => hb.block k hk⟩ (by cases hv : v.ownBlock <;> simp)
theorem below_own {B : Nat} {base e size n : Nat} {v : Value} {xs : List Value} {w0 w w' : World} (hb : Below B w0 w) (ho : w.ownsRow base e size v n xs) (hg : w.grownBy w' v.ownBlock) (h1 : B ≤ base) (h2 : B ≤ w.heap.size) : Below B w0 w' :=
  hb.grown hg h2 (fun k e => Nat.le_trans h1 (ho.lt k e).1)
def bos (l : List Bool) : List Value := l.map .bool
theorem bos_length (l : List Bool) : (bos l).length = l.length := by simp [bos]
theorem bos_one (l : List Bool) : ∀ u ∈ bos l, u.oneCell' = true := by
  intro u hu
  obtain ⟨_, _, rfl⟩ := List.mem_map.1 hu
  rfl

theorem Sl.one (w : World) (v : Value) (e : TypeId) : Sl (w.alloc (.cells #[v] e)) 1 (.slice (some ⟨w.heap.size, 0, none⟩) 1 1) 1 [v] := Sl.new w [v] e (show 1 ≤ maxLen by decide)

theorem wpL_make {P : Program} {w : World} {ops : Array Oper} {rest : List Oper} {o : Oper} {a : Act} {Q : Exit → Act → World → Prop} {t e : TypeId} {z : Value} {bytes : Nat} (hT : ET P t e z 1 bytes) (hz : z.cells = #[z])
    (hgd : o.guard = none) (l c : Operand) (ho : o.op = .makeSlice t l c) (n : Nat) (base : Nat) {kl kc : IntKind} {L C : Int} (hl : a.eval l = .int kl L) (hc : a.eval c = .int kc C) (hL : L = (n : Int)) (hC : C = (n : Int))
    (b2 : bytes * n ≤ 281474976710656) (b3 : n ≤ maxLen) (b4 : base ≤ w.heap.size)
    (h : ∀ w', w'.ownsRow base e 1 (.slice (some ⟨w.heap.size, 0, none⟩) n n) n (List.replicate n z) → w.grownBy w' none → wpList P ops Q rest (a.put o.dst (.slice (some ⟨w.heap.size, 0, none⟩) n n)) w') : wpList P ops Q (o :: rest) a w := by
  obtain ⟨i, hi, hz0, hz1, hz2⟩ := info_parts hT.info
  refine wpList_make_full w hgd l c t ho base e i z 1 hT.und hi hz0 hz1 kl kc L C n hl hc hL hC (by rw [hz2]; exact b2) b3 b4 ?_
  intro w' h1 h2
  refine h w' ?_ h2
  rw [hz, Nat.mul_one, toList_madeCells_one] at h1
  exact h1
theorem own_set {w : World} {base e n g cap : Nat} {xs : List Value} (h : w.ownsRow base e 1 (.slice (some ⟨g, 0, none⟩) n cap) n xs) (j : Nat) (u : Value) :
    (w.setCell ⟨g, j, none⟩ u).ownsRow base e 1 (.slice (some ⟨g, 0, none⟩) n cap) n (xs.set j u) := (h.stored j u).1
theorem own_get {w : World} {base e n g cap : Nat} {xs : List Value} (h : w.ownsRow base e 1 (.slice (some ⟨g, 0, none⟩) n cap) n xs) (j : Nat) (hj : j < n) : w.cell? ⟨g, j, none⟩ = xs[j]? := h.cellAt j (by omega)
def ints (l : List Int) : List Value := l.map (Value.int .i64)
theorem ints_length (l : List Int) : (ints l).length = l.length := by simp [ints]
theorem ints_one (l : List Int) : ∀ u ∈ ints l, u.oneCell' = true := by
  intro u hu
  obtain ⟨_, _, rfl⟩ := List.mem_map.1 hu
  rfl
theorem ints_get (l : List Int) (j : Nat) (h : j < l.length) : (ints l)[j]? = some (.int .i64 (l.getD j 0)) := by simp [ints, h]
theorem bos_get (l : List Bool) (j : Nat) (h : j < l.length) : (bos l)[j]? = some (.bool (l.getD j false)) := by simp [bos, h]
theorem bos_set (l : List Bool) (j : Nat) (b : Bool) : (bos l).set j (.bool b) = bos (l.set j b) := by simp [bos]
theorem bvs_set (l : List UInt8) (j : Nat) (b : UInt8) : (bvs l).set j (.int .u8 (b.toNat : Int)) = bvs (l.set j b) := by simp [bvs]
theorem ints_set (l : List Int) (j : Nat) (b : Int) : (ints l).set j (.int .i64 b) = ints (l.set j b) := by simp [ints]
theorem bos_replicate (n : Nat) (b : Bool) : List.replicate n (Value.bool b) = bos (List.replicate n b) := by simp [bos]
theorem bvs_replicate (n : Nat) : List.replicate n (Value.int .u8 0) = bvs (List.replicate n 0) := by simp [bvs]
theorem bos_append (l r : List Bool) : bos (l ++ r) = bos l ++ bos r := by simp [bos]

theorem own_mono {w : World} {base base' e size n : Nat} {v : Value} {xs : List Value} (h : w.ownsRow base e size v n xs) (hb : base' ≤ base) : w.ownsRow base' e size v n xs := by
  refine ⟨h.1, ?_⟩
  rcases h.2 with h2 | ⟨g, cap, cur, hv, hg, r⟩
  · exact .inl h2
  · exact .inr ⟨g, cap, cur, hv, by omega, r⟩
theorem own_other {w : World} {base e size n g cap : Nat} {xs : List Value} (h : w.ownsRow base e size (.slice (some ⟨g, 0, none⟩) n cap) n xs) {a : Addr} (ha : g ≠ a.block) (u : Value) : (w.setCell a u).ownsRow base e size (.slice (some ⟨g, 0, none⟩) n cap) n xs :=
  ownsRow_setCell_other h (by simpa [Value.ownBlock] using ha) u

theorem Sl.lit (w : World) (l : List Value) (e : TypeId) (n : Nat) (hn : l.length = n) (hm : n ≤ maxLen) : Sl (w.alloc (.cells l.toArray e)) 1 (.slice (some ⟨w.heap.size, 0, none⟩) n n) n l := by
  subst hn; exact Sl.new w l e hm
/-- 'append([]T{}, x...)': a copy of its own -/
theorem wpL_append0 {P : Program} {w : World} {ops : Array Oper} {rest : List Oper} {o : Oper} {a : Act} {Q : Exit → Act → World → Prop} {t e : TypeId} {z : Value} {bytes : Nat} (hT : ET P t e z 1 bytes)
    (hgd : o.guard = none) (s x : Operand) (ho : o.op = .call { callee := .builtin .append, args := #[s, x], argTypes := #[t, t] })
    (base : Nat) (hs : a.eval s = .slice (some ⟨w.heap.size, 0, none⟩) 0 0)
    {vx : Value} {m : Nat} {news : List Value} (hsrc : Sl w 1 vx m news) (hx : a.eval x = vx) (h1 : ∀ u ∈ news, u.oneCell' = true)
    (hbytes : m * bytes ≤ 140737488355328) (h63 : m ≤ maxLen) (hbase : base ≤ w.heap.size)
    (h : ∀ v' w', w'.ownsRow base e 1 v' m news → (w.alloc (.cells #[] e)).grownBy w' (some w.heap.size) → wpList P ops Q rest (a.put o.dst v') w') : wpList P ops Q (o :: rest) a (w.alloc (.cells #[] e)) := by
  refine wpL_append (n := 0) (xs := []) hT hgd s x ho (own_new w [] e hbase (by decide)) hs (hsrc.below ((Below.refl _ _).alloc (Nat.le_refl _) _)) hx h1 (by rw [Nat.zero_add]; exact hbytes) (by omega) (by simp; omega) ?_
  intro v' w' h1 h2
  exact h v' w' (by simpa using h1) h2
theorem below_append0 {B : Nat} {e : TypeId} {w0 w w' : World} (hb : Below B w0 w) (hB : B ≤ w.heap.size) (hg : (w.alloc (.cells #[] e)).grownBy w' (some w.heap.size)) : Below B w0 w' :=
  (hb.alloc hB _).grown hg (by simp; omega) (fun k e => by cases e; exact hB)

/-- an operation whose guard is known to hold is walked like one without -/
theorem wpList_unguard {P : Program} {w : World} {ops : Array Oper} {rest : List Oper} {o : Oper} {a : Act} {Q : Exit → Act → World → Prop}
    (hw : Region.wanted o (yielded ops a.tmps) = true) (h : wpList P ops Q ({ o with guard := none } :: rest) a w) : wpList P ops Q (o :: rest) a w := by
  unfold wpList at h ⊢
  rw [if_pos (by simp [Region.wanted])] at h
  rw [if_pos hw]
  exact h
def str (l : List UInt8) : ByteArray := ⟨l.toArray⟩
theorem foldl_push (l : List UInt8) : ∀ s : ByteArray, (l.map fun x => (x.toNat : Int)).foldl (fun r n => r.push (UInt8.ofNat n.toNat)) s = ⟨s.data ++ l.toArray⟩ := by
  induction l with
  | nil => intro s; simp
  | cons x l ih => intro s; simp only [List.map_cons, List.foldl_cons]; rw [ih]; simp [ByteArray.push]
theorem run_toString {P : Program} (w : World) (v : Value) (n : Nat) (l : List UInt8) (h : Sl w 1 v n (bvs l)) : (Conv.bytesToString v).run P w = .ok (.string (str l)) w := by
  obtain ⟨hl, a, c, rfl, h1, h2, h3, h4⟩ := h
  rw [bvs_length] at hl
  cases l with
  | nil =>
    obtain rfl : n = 0 := by simpa using hl.symm
    cases a with
    | none => simp [Conv.bytesToString, str]; rfl
    | some a => 
      have := run_bytesToString (P := P) w a 0 c [] (by simp [loadCells, loadCellsFrom])
      rw [this]; rfl
  | cons x l =>
    obtain ⟨b, off, rfl, _⟩ := h4 0 _ rfl
    have hc := run_loadCells_list (P := P) w ⟨b, off, none⟩ (bvs (x :: l)) (fun j v hv => by
      obtain ⟨b', off', he, hc⟩ := h4 j v hv
      cases he; rw [add_eq]; exact hc)
    have e : ((x :: l).map fun x => (x.toNat : Int)).map (Value.int .u8) = bvs (x :: l) := by simp [bvs]
    rw [bvs_length] at hc
    have := run_bytesToString (P := P) w ⟨b, off, none⟩ n c ((x :: l).map fun x => (x.toNat : Int)) (by rw [e, show n = (x :: l).length by omega]; exact hc)
    rw [this, foldl_push]
    simp [str]
theorem wpL_toString {P : Program} {w : World} {ops : Array Oper} {rest : List Oper} {o : Oper} {a : Act} {Q : Exit → Act → World → Prop}
    (hgd : o.guard = none) (src dst : TypeId) (x : Operand) (ho : o.op = .convert src dst x) {e : TypeId} (hs : P.underlying src = some (.slice e)) (he : P.underlying e = some (.int .u8)) (hd : P.underlying dst = some .string)
    {v : Value} {n : Nat} {l : List UInt8} (h : Sl w 1 v n (bvs l)) (hx : a.eval x = v) (hk : wpList P ops Q rest (a.put o.dst (.string (str l))) w) : wpList P ops Q (o :: rest) a w := by
  refine wpList_plain hgd fun _ hK => ?_
  obtain ⟨av, c, hv⟩ := h.form
  have hr := run_toString (P := P) w v n l h
  subst hv
  have hc := run_convert_bytes_string (P := P) w src dst e av n c hs he hd
  unfold Oper.wp execOp
  simp only [ho, hx, Sem.run_bind, Sem.run_pure, Result.andThen_ok, hc, hr]
  exact hK _ _ hk

theorem Sl.litF (w : World) (l : List Value) (e : TypeId) (fr : Nat × Nat) (n : Nat) (hn : l.length = n) (hm : n ≤ maxLen) : Sl (w.alloc (.cells l.toArray e fr)) 1 (.slice (some ⟨w.heap.size, 0, none⟩) n n) n l :=
  ⟨by omega, _, n, rfl, Nat.le_refl _, hm, by simp, fun j u hu => ⟨_, 0, rfl, by rw [cell_of_row _ _ _ _ _ _ (heap_alloc_new w _)]; simpa using hu⟩⟩

end Go.Proofs.YtobagfndagjajaaDoor.Crc
