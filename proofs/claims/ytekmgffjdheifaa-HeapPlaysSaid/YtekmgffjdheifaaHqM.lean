/-
  The document's heap in memory: a list of things; what it tells of them all. Conditions: the heap reads as one.
-/
import Derived.Test.YtekmgffjdheifaaHpO
import Derived.Test.YtekmgffjdheifaaHpQ
namespace Go.Proofs.Ytekmgffjdheifaa
open Go Go.RowKit
set_option linter.unusedVariables false
set_option linter.unusedSimpArgs false
set_option maxRecDepth 100000

/-- the colour of a thing's words; the colours that the document's heap's steps turn -/
def rc (k : Nat) : Nat := 2 * k + 101
def RQ : Nat → Prop := fun x => x = 6 ∨ (101 ≤ x ∧ x % 2 = 1)
theorem rc_RQ (k : Nat) : RQ (rc k) := .inr (by unfold rc; omega)
theorem six_RQ : RQ 6 := .inl rfl
theorem rc_inj {i j : Nat} (h : rc i = rc j) : i = j := by unfold rc at h; omega
def tcell (h : Th) (v : Value) : List Value := [.int .u8 (h.o.k.toNat : Int), .int .i64 h.o.t, v, .string (str h.o.s), .bool h.is, .int .i64 h.oid, .bool h.dirty]
theorem etTg : ET Try.prog 99 103 (.agg #[.int .u8 0, .int .i64 0, .slice none 0 0, .string ⟨#[]⟩, .bool false, .int .i64 0, .bool false]) 7 80 := ⟨Try.underlying99, by kernel_rfl, rfl, by decide⟩
structure RfIn (col : Nat → Nat) (w : World) (r m : Nat) (H : List Th) (gl ol cl : Nat) (cs : List Value) (vs : Nat → Value) : Prop where
  row : Row w r 101 [.int .i64 (m : Nat), .slice (some ⟨gl, ol, none⟩) H.length cl]
  cr : col r = 6
  own : OwnC col w 6 7 (.slice (some ⟨gl, ol, none⟩) H.length cl) H.length cs
  ne : gl ≠ r
  at_ : ∀ k j, k < H.length → j < 7 → cs[k * 7 + j]? = (tcell (H.getD k noTh) (vs k))[j]?
  ws : ∀ k, k < H.length → OwnC col w (rc k) 2 (vs k) (H.getD k noTh).o.l.length (wcells (H.getD k noTh).o.l)
def RfAt (col : Nat → Nat) (w : World) (r m : Nat) (H : List Th) : Prop := ∃ gl ol cl cs vs, RfIn col w r m H gl ol cl cs vs
section
variable {col col' : Nat → Nat} {w w' : World} {r m gl ol cl : Nat} {H : List Th} {cs : List Value} {vs : Nat → Value}
theorem RfIn.st {Q : Nat → Prop} (h : RfIn col w r m H gl ol cl cs vs) (k : St Q col w col' w') (hQ : ∀ x, RQ x → ¬ Q x) : RfIn col' w' r m H gl ol cl cs vs :=
  ⟨h.row.mods k.mods (by rw [h.cr]; exact hQ _ six_RQ), (k.ext r h.row.lt).trans h.cr, h.own.st k (hQ _ six_RQ), h.ne, h.at_, fun i hi => (h.ws i hi).st k (hQ _ (rc_RQ i))⟩
theorem RfAt.st {Q : Nat → Prop} (h : RfAt col w r m H) (k : St Q col w col' w') (hQ : ∀ x, RQ x → ¬ Q x) : RfAt col' w' r m H := by
  obtain ⟨gl, ol, cl, cs, vs, h⟩ := h
  exact ⟨gl, ol, cl, cs, vs, h.st k hQ⟩
theorem RfIn.fresh (h : RfIn col w r m H gl ol cl cs vs) (hb : Below w.heap.size w w') : RfIn col w' r m H gl ol cl cs vs := h.st (St.fresh hb (fun _ => False) col) (fun _ _ h => h)
theorem RfAt.fresh (h : RfAt col w r m H) (hb : Below w.heap.size w w') : RfAt col w' r m H := h.st (St.fresh hb (fun _ => False) col) (fun _ _ h => h)
theorem RfIn.at (h : RfIn col w r m H gl ol cl cs vs) : RfAt col w r m H := ⟨gl, ol, cl, cs, vs, h⟩
theorem RfIn.c0 (h : RfIn col w r m H gl ol cl cs vs) : w.cell? ⟨r, 0, none⟩ = some (.int .i64 (m : Nat)) := h.row.cell 0
theorem RfIn.c1 (h : RfIn col w r m H gl ol cl cs vs) : w.cell? ⟨r, 1, none⟩ = some (.slice (some ⟨gl, ol, none⟩) H.length cl) := h.row.cell 1
theorem RfIn.cell (h : RfIn col w r m H gl ol cl cs vs) {k j : Nat} (hk : k < H.length) (hj : j < 7) : w.cell? ⟨gl, ol + (k * 7 + j), none⟩ = (tcell (H.getD k noTh) (vs k))[j]? := by
  have hl := h.own.1.1
  rw [h.own.1.get (k * 7 + j) (by omega)]
  exact h.at_ k j hk hj
/-- a thing's cells -/
theorem RfIn.all (h : RfIn col w r m H gl ol cl cs vs) {k : Nat} (hk : k < H.length) :
    w.cell? ⟨gl, ol + k * 7, none⟩ = some (.int .u8 ((H.getD k noTh).o.k.toNat : Int)) ∧ w.cell? ⟨gl, ol + k * 7 + 1, none⟩ = some (.int .i64 (H.getD k noTh).o.t) ∧ w.cell? ⟨gl, ol + k * 7 + 2, none⟩ = some (vs k) ∧ w.cell? ⟨gl, ol + k * 7 + 3, none⟩ = some (.string (str (H.getD k noTh).o.s)) ∧ w.cell? ⟨gl, ol + k * 7 + 4, none⟩ = some (.bool (H.getD k noTh).is) ∧ w.cell? ⟨gl, ol + k * 7 + 5, none⟩ = some (.int .i64 (H.getD k noTh).oid) ∧ w.cell? ⟨gl, ol + k * 7 + 6, none⟩ = some (.bool (H.getD k noTh).dirty) := by
  have e : ∀ j, j < 7 → w.cell? ⟨gl, ol + k * 7 + j, none⟩ = (tcell (H.getD k noTh) (vs k))[j]? := fun j hj => by rw [Nat.add_assoc]; exact h.cell hk hj
  exact ⟨e 0 (by decide), e 1 (by decide), e 2 (by decide), e 3 (by decide), e 4 (by decide), e 5 (by decide), e 6 (by decide)⟩
theorem RfIn.cap (h : RfIn col w r m H gl ol cl cs vs) : H.length ≤ 9223372036854775807 := by have := h.own.1.sl.cap; omega
end
def StepR (v : Value) (H' : List Th) (m : Nat) (col : Nat → Nat) (w : World) (r : Nat) (e : Ending) (w' : World) : Prop := e = .returned v ∧ ∃ col', St RQ col w col' w' ∧ RfAt col' w' r m H'
theorem StepR.stay {col : Nat → Nat} {w w' : World} {r m : Nat} {H : List Th} {v : Value} (h : RfAt col w r m H) (hb : Below w.heap.size w w') : StepR v H m col w r (.returned v) w' := ⟨rfl, col, St.fresh hb _ _, h.fresh hb⟩
/-! ### Size -/
theorem sizeR_any (o : Ob) (a : Option Addr) (n c m : Nat) (w : World) (hn : o.l.length = n) (hm : o.s.length = m) (hn9 : n ≤ 1073741824) (hm9 : m ≤ 1073741824) (Z : Nat) (HZ : Hid (Z = sizeO o)) :
    Calls Try.prog 67 #[.agg #[.int .u8 (o.k.toNat : Int), .int .i64 o.t, .slice a n c, .string (str o.s)]] w fun e w' => e = .returned (.int .i64 (Z : Nat)) ∧ Below w.heap.size w w' := by
  have hsl : (str o.s).size = m := by rw [str_size]; exact hm
  have HK : Hid (o.k = 8 ↔ o.k.toNat = 8) := Lib.hid u8_eq
  obtain ⟨k, hk⟩ : ∃ k, k = o.k.toNat := ⟨_, rfl⟩
  rw [← hk] at HK ⊢
  clear hk
  generalize hst : str o.s = st at hsl ⊢
  have hz : Hid (Z = if o.k = 8 then 1 else 1 + n + (m + 7) / 8) := by subst hn hm; exact HZ
  clear HZ hst
  have hb1 : Below w.heap.size w (w.alloc (.cells #[.int .u8 (k : Int), .int .i64 o.t, .slice a n c, .string st] 25)) := (Below.refl _ _).alloc (Nat.le_refl _) _
  by_cases k8 : k = 8
  · subst k8
    obtain rfl : Z = 1 := by rw [hz.out, if_pos (HK.out.2 rfl)]
    go_enter Try.func67, Try.ntmps67
    go_wp2_with fail
    go_ret
    exact ⟨rfl, hb1⟩
  · have e8 : ((k : Int) == 8) = false := by rw [beq_eq_false_iff_ne]; omega
    have hZ : Z = 1 + n + (m + 7) / 8 := by rw [hz.out, if_neg (fun e => k8 (HK.out.1 e))]
    clear hz HK k8
    have hq : (((m : Int) + 7)).tdiv 8 = (((m + 7) / 8 : Nat) : Int) := by
      rw [Int.tdiv_eq_ediv_of_nonneg (by omega)]
      omega
    go_enter Try.func67, Try.ntmps67
    go_wp2_with fail
    go_ret
    refine ⟨?_, hb1⟩
    subst hZ
    have : ((1 + n + (m + 7) / 8 : Nat) : Int) = 1 + (n : Int) + ((m + 7) / 8 : Nat) := by omega
    first | rfl | rw [this] | (go_num)
/-! ### New, has -/
theorem newR_no (z : Int) (w : World) (h : Hid (newIs z = false)) : Calls Try.prog 34 #[.int .i64 z] w fun e w' => e = .returned (.tuple #[.pointer none, .int .i64 1]) ∧ w = w' := by
  by_cases h1 : z < 1
  · go_enter Try.func34, Try.ntmps34
    go_wp2_with fail
    go_ret2
    exact ⟨rfl, rfl⟩
  · have h2 : 16777216 < z := by have := h.out; simp [newIs] at this; omega
    go_enter Try.func34, Try.ntmps34
    go_wp2_with fail
    go_ret2
    exact ⟨rfl, rfl⟩
section
variable {col : Nat → Nat} {w : World} {r m gl ol cl : Nat} {H : List Th} {cs : List Value} {vs : Nat → Value}
theorem has_p (h : RfIn col w r m H gl ol cl cs vs) (k : Int) (B : Bool) (hB : Hid (B = (thAt H k).is)) :
    Calls Try.prog 78 #[.pointer (some ⟨r, 0, none⟩), .int .i64 k] w fun e w' => e = .returned (.bool B) ∧ w = w' := by
  have c1 := h.c1
  have hcap := h.cap
  by_cases h0 : k < 0
  · obtain rfl : B = false := by rw [hB.out, thAt_neg h0]; rfl
    clear h hB
    go_enter Try.func78, Try.ntmps78
    go_wp2_with fail
    go_ret
    exact ⟨rfl, rfl⟩
  obtain ⟨i, rfl⟩ : ∃ i : Nat, k = i := ⟨k.toNat, by omega⟩
  by_cases h1 : i < H.length
  · obtain ⟨d0, d1, d2, d3, d4, d5, d6⟩ := h.all h1
    rw [thAt_nat] at hB
    rw [← hB.out] at d4
    have h1' : (i : Int) < H.length := by omega
    clear h hB d0 d1 d2 d3 d5 d6
    go_enter Try.func78, Try.ntmps78
    go_wp2_with fail
    go_ret
    exact ⟨rfl, rfl⟩
  · obtain rfl : B = false := by rw [hB.out, thAt_ge (by omega)]; rfl
    have h1' : ¬ (i : Int) < H.length := by omega
    clear h hB
    go_enter Try.func78, Try.ntmps78
    go_wp2_with fail
    go_ret
    exact ⟨rfl, rfl⟩
end
end Go.Proofs.Ytekmgffjdheifaa
