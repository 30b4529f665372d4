/-
  What a step leaves alone: 'Mods P w w'': new blocks, and writes to blocks of P alone. No condition: plain laws on memory.
-/
import Derived.Test.YtoddklfblcfoiaaDoorMem
namespace Go.Proofs.YtoddklfblcfoiaaDoor
open Go.RowKit
set_option linter.unusedVariables false

structure Mods (P : Nat → Prop) (w w' : World) : Prop where
  os : w'.os = w.os
  tape : w'.tape = w.tape
  output : w'.output = w.output
  size : w.heap.size ≤ w'.heap.size
  block : ∀ k, k < w.heap.size → ¬ P k → w'.heap[k]? = w.heap[k]?
theorem Mods.refl (P : Nat → Prop) (w : World) : Mods P w w := ⟨rfl, rfl, rfl, Nat.le_refl _, fun _ _ _ => rfl⟩
theorem Mods.mono {P Q : Nat → Prop} {w w' : World} (h : Mods P w w') (hq : ∀ g, P g → Q g) : Mods Q w w' := ⟨h.os, h.tape, h.output, h.size, fun k hk hn => h.block k hk (fun hp => hn (hq k hp))⟩
theorem Mods.trans {P : Nat → Prop} {a b c : World} (h : Mods P a b) (k : Mods P b c) : Mods P a c :=
  ⟨k.os.trans h.os, k.tape.trans h.tape, k.output.trans h.output, Nat.le_trans h.size k.size, fun i hi hn => (k.block i (Nat.lt_of_lt_of_le hi h.size) hn).trans (h.block i hi hn)⟩
/-- two steps: what the second may touch beyond the first is new -/
theorem Mods.after {P Q : Nat → Prop} {a b c : World} (h : Mods P a b) (k : Mods Q b c) (hq : ∀ g, Q g → P g ∨ a.heap.size ≤ g) : Mods P a c :=
  ⟨k.os.trans h.os, k.tape.trans h.tape, k.output.trans h.output, Nat.le_trans h.size k.size, fun i hi hn => (k.block i (Nat.lt_of_lt_of_le hi h.size) (fun hqi => by rcases hq i hqi with h1 | h1; exact hn h1; omega)).trans (h.block i hi hn)⟩
theorem Mods.grown {w w' : World} {row : Option Nat} (h : w.grownBy w' row) : Mods (fun g => row = some g) w w' := ⟨h.os, h.tape, h.output, h.size, fun k hk hn => h.block k hk (fun e => hn e.symm)⟩
theorem Mods.below {B : Nat} {w w' : World} (h : Below B w w') : Mods (fun g => B ≤ g) w w' := ⟨h.os, h.tape, h.output, h.size, fun k hk hn => h.block k (by omega)⟩
theorem Mods.fresh {w w' : World} (h : Below w.heap.size w w') (P : Nat → Prop) : Mods P w w' := ⟨h.os, h.tape, h.output, h.size, fun k hk _ => h.block k hk⟩
theorem Mods.toBelow {P : Nat → Prop} {w w' : World} {B : Nat} (h : Mods P w w') (hB : ∀ g, P g → B ≤ g) (hs : B ≤ w.heap.size) : Below B w w' := ⟨h.os, h.tape, h.output, h.size, fun k hk => h.block k (by omega) (fun hp => by have := hB k hp; omega)⟩
theorem Mods.still {w w' : World} (h : Mods (fun _ => False) w w') : Below w.heap.size w w' := h.toBelow (fun _ h => h.elim) (Nat.le_refl _)
theorem Mods.cell {P : Nat → Prop} {w w' : World} {b o : Nat} {v : Value} (h : Mods P w w') (hc : w.cell? ⟨b, o, none⟩ = some v) (hn : ¬ P b) : w'.cell? ⟨b, o, none⟩ = some v :=
  (World.cell?_of_block (a := ⟨b, o, none⟩) (h.block b (lt_of_cell hc) hn)).trans hc
theorem Mods.set (w : World) (b o : Nat) (v : Value) : Mods (fun g => g = b) w (w.setCell ⟨b, o, none⟩ v) := (Mods.grown (grown_setCell w b o v)).mono (fun g h => (Option.some.inj h).symm)
theorem Mods.alloc {P : Nat → Prop} {a w : World} (h : Mods P a w) (o : Obj) : Mods P a (w.alloc o) := h.trans (Mods.fresh ((Below.refl _ _).alloc (Nat.le_refl _) o) P)
theorem Mods.drew {P : Nat → Prop} {a w : World} (h : Mods P a w) : Mods P a w.drew := h.trans (Mods.fresh (Below.refl _ _).drew P)
theorem below_mods {B : Nat} {P : Nat → Prop} {a w w' : World} (h : Below B a w) (k : Mods P w w') (hB : ∀ g, P g → B ≤ g) (hs : B ≤ w.heap.size) : Below B a w' :=
  h.trans (k.toBelow hB hs)
theorem OwnB.mods {w w' : World} {P : Nat → Prop} {base size g off n cap : Nat} {xs : List Value} (h : OwnB w base size g off n cap xs) (hm : Mods P w w') (hn : ¬ P g) : OwnB w' base size g off n cap xs := by
  have hb := hm.block g h.lt hn
  have hc : ∀ j, w'.cell? ⟨g, off + j, none⟩ = w.cell? ⟨g, off + j, none⟩ ∧ w'.frozen? ⟨g, off + j, none⟩ = w.frozen? ⟨g, off + j, none⟩ :=
    fun j => ⟨World.cell?_of_block (a := ⟨g, off + j, none⟩) hb, World.frozen?_of_block (a := ⟨g, off + j, none⟩) hb⟩
  refine ⟨h.base, Nat.lt_of_lt_of_le h.lt hm.size, h.nc, h.max, fun j hj => ?_, fun j u hu => ?_⟩
  · rw [(hc j).1, (hc j).2]; exact h.there j hj
  · rw [(hc j).1]; exact h.vals j u hu
theorem Own.mods {w w' : World} {P : Nat → Prop} {base size n : Nat} {v : Value} {xs : List Value} (h : Own w base size v n xs) (hm : Mods P w w') (hn : ∀ g, v.ownBlock = some g → ¬ P g) : Own w' base size v n xs := by
  refine ⟨h.1, ?_⟩
  rcases h.2 with h2 | ⟨g, off, cap, rfl, hb⟩
  · exact .inl h2
  · exact .inr ⟨g, off, cap, rfl, hb.mods hm (hn g rfl)⟩
theorem Sl.mods {w w' : World} {P : Nat → Prop} {size m : Nat} {v : Value} {xs : List Value} (h : Sl w size v m xs) (hm : Mods P w w') (hn : ∀ g, v.ownBlock = some g → ¬ P g) : Sl w' size v m xs := by
  obtain ⟨hl, a, c, rfl, h1, h2, h3, h4⟩ := h
  refine ⟨hl, a, c, rfl, h1, h2, h3, fun j u hu => ?_⟩
  obtain ⟨b, off, ha, hc⟩ := h4 j u hu
  subst ha
  exact ⟨b, off, rfl, hm.cell hc (hn b rfl)⟩
theorem Row.mods {w w' : World} {P : Nat → Prop} {b : Nat} {e : TypeId} {l : List Value} (h : Row w b e l) (hm : Mods P w w') (hn : ¬ P b) : Row w' b e l := (hm.block b h.lt hn).trans h
/-- append: in place, or into new memory -/
theorem run_append_OwnY {P : Program} (w : World) {t tx ty e : TypeId} {z : Value} {size bytes : Nat} (hT : ET P t e z size bytes) {base : Nat} {v : Value} {n : Nat} {xs : List Value} (hown : Own w base size v n xs)
    {vx : Value} {m : Nat} {news : List Value} (hs : Src P size tx vx m news w) (hbytes : (n + m) * bytes ≤ 140737488355328) (h63 : n + m ≤ maxLen) (hbase : base ≤ w.heap.size) :
    ∃ v' w', (Builtin.append_ #[t, tx] ty #[v, vx]).run P w = .ok v' w' ∧ Own w' base size v' (n + m) (xs ++ news) ∧ w.grownBy w' v.ownBlock ∧
      ((∃ g off cap, v = .slice (some ⟨g, off, none⟩) n cap ∧ v' = .slice (some ⟨g, off, none⟩) (n + m) cap) ∨ ((∀ g, v'.ownBlock = some g → w.heap.size ≤ g) ∧ w.grownBy w' none)) := by
  obtain ⟨i, hi, hz0, hz1, hz2⟩ := info_parts hT.info
  subst hz1; subst hz2
  have h63' : n + m ≤ 9223372036854775807 := by simpa [maxLen] using h63
  have hlen : (xs ++ news).length = (n + m) * i.size := by rw [List.length_append, hown.1, hs.newsLen, Nat.add_mul]
  have grown : ∀ (old : Nat) (row : Option Nat),
      Own (w.drew.alloc (.cells ((xs ++ news).toArray ++ Builtin.zeroCells z.cells (grownCap w (n + m) old e - (n + m))) e)) base i.size (.slice (some ⟨w.heap.size, 0, none⟩) (n + m) (grownCap w (n + m) old e)) (n + m) (xs ++ news) ∧
      w.grownBy (w.drew.alloc (.cells ((xs ++ news).toArray ++ Builtin.zeroCells z.cells (grownCap w (n + m) old e - (n + m))) e)) row := by
    intro old row
    have hge := grownCap_ge w (n + m) old e
    have hcm : grownCap w (n + m) old e ≤ maxLen := grownCap_le_maxLen w (n + m) old e h63
    refine ⟨Own.block i.size (heap_alloc_new w.drew _) hbase hlen (fun j _ => by simp) ?_ hge hcm ?_, ⟨rfl, rfl, rfl, by simp, fun k hk _ => Below.heap_alloc w.drew _ k hk⟩⟩
    · rw [Array.size_append, List.size_toArray, hlen, size_zeroCells, hT.cells, ← Nat.add_mul]
      exact Nat.mul_le_mul_right _ (by omega)
    · intro j u hu
      have hj := (List.getElem?_eq_some_iff.1 hu).1
      rw [Array.getElem?_append_left (by simpa using hj)]
      simpa using hu
  rcases hown.2 with ⟨rfl, rfl⟩ | ⟨g, off, cap, rfl, hb⟩
  · have hx : xs = [] := List.eq_nil_of_length_eq_zero (by simpa using hown.1)
    subst hx
    by_cases hm : m = 0
    · subst hm
      have hn : news = [] := List.eq_nil_of_length_eq_zero (by simpa using hs.newsLen)
      subst hn
      refine ⟨.slice none 0 0, w, ?_, Own.nil w base i.size, ⟨rfl, rfl, rfl, Nat.le_refl _, fun _ _ _ => rfl⟩, .inr ⟨fun g hg => by simp [Value.ownBlock] at hg, ⟨rfl, rfl, rfl, Nat.le_refl _, fun _ _ _ => rfl⟩⟩⟩
      rcases hs.kind with ⟨e', hk⟩ | hk <;> simp [Builtin.append_, run_underlying hT.und, run_underlying hk, sizeOf, typeInfo, hi, hs.len, hs.cells]
    · have hr := run_append_grow_src (P := P) w t tx ty e i z hT.und hi hz0 none 0 0 [] (by simp [Builtin.firstCells]) vx m news hs (by omega) (by omega) (growslice_fits (by omega) hbytes)
      have hgr := grown 0 (Value.ownBlock (.slice none 0 0))
      have hgr0 := (grown 0 none).2
      simp only [Nat.zero_add, List.nil_append] at hr hgr hgr0 ⊢
      exact ⟨_, _, hr, hgr.1, hgr.2, .inr ⟨fun g hg => by simp [Value.ownBlock] at hg; omega, hgr0⟩⟩
  · by_cases hroom : n + m ≤ cap
    · have hle : (n + m) * i.size ≤ cap * i.size := Nat.mul_le_mul_right _ hroom
      have hnl := hs.newsLen
      rw [Nat.add_mul] at hle
      have hr := run_append_room_src (P := P) w t tx ty e i hT.und hi g off n cap vx m news hs hroom
        (fun j hj => by have := (hb.there (n * i.size + j) (by omega)).1; rwa [← Nat.add_assoc] at this)
        (fun j hj => by have := (hb.there (n * i.size + j) (by omega)).2; rwa [← Nat.add_assoc] at this)
      have hsc := setCells_own g off base i.size n cap news (n * i.size) w xs hb (by omega) hown.1.symm
      exact ⟨_, _, hr, ⟨hlen, .inr ⟨g, off, cap, rfl, hsc.1.len hroom⟩⟩, by simpa [Value.ownBlock] using hsc.2, .inl ⟨g, off, cap, rfl, rfl⟩⟩
    · have hold := run_firstCells_some (P := P) w.drew i.size n ⟨g, off, none⟩ n cap xs hown.1 (fun j u hu => by rw [add_eq]; exact hb.vals j u hu)
      have hr := run_append_grow_src (P := P) w t tx ty e i z hT.und hi hz0 (some ⟨g, off, none⟩) n cap xs hold vx m news hs (by omega) (by omega) (growslice_fits (by omega) hbytes)
      have hgr := grown cap (Value.ownBlock (.slice (some ⟨g, off, none⟩) n cap))
      have hgr0 := (grown cap none).2
      exact ⟨_, _, hr, hgr.1, hgr.2, .inr ⟨fun g hg => by simp [Value.ownBlock] at hg; omega, hgr0⟩⟩
theorem wpL_appendY {P : Program} {w : World} {ops : Array Oper} {rest : List Oper} {o : Oper} {a : Act} {Q : Exit → Act → World → Prop} {t e : TypeId} {z : Value} {size bytes : Nat} (hT : ET P t e z size bytes)
    (hgd : o.guard = none) (s x : Operand) (ho : o.op = .call { callee := .builtin .append, args := #[s, x], argTypes := #[t, t] })
    {base : Nat} {v : Value} {n : Nat} {xs : List Value} (hown : Own w base size v n xs) (hs : a.eval s = v)
    {vx : Value} {m : Nat} {news : List Value} (hsrc : Sl w size vx m news) (hx : a.eval x = vx) (h1 : ∀ u ∈ news, u.oneCell' = true)
    (hbytes : (n + m) * bytes ≤ 140737488355328) (h63 : n + m ≤ maxLen) (hbase : base ≤ w.heap.size)
    (h : ∀ v' w', Own w' base size v' (n + m) (xs ++ news) → w.grownBy w' v.ownBlock →
      ((∃ g off cap, v = .slice (some ⟨g, off, none⟩) n cap ∧ v' = .slice (some ⟨g, off, none⟩) (n + m) cap) ∨ ((∀ g, v'.ownBlock = some g → w.heap.size ≤ g) ∧ w.grownBy w' none)) → wpList P ops Q rest (a.put o.dst v') w') : wpList P ops Q (o :: rest) a w := by
  obtain ⟨v', w', hr, h2, h3, h4⟩ := run_append_OwnY (P := P) w (ty := o.type) hT hown (hsrc.src hT.und h1) hbytes h63 hbase
  exact Lib.wpList_append_run w hgd s x t t ho _ _ hs hx _ _ hr (h v' w' h2 h3 h4)
theorem wpL_appendX2 {P : Program} {w : World} {ops : Array Oper} {rest : List Oper} {o : Oper} {a : Act} {Q : Exit → Act → World → Prop} {t e : TypeId} {z : Value} {size bytes : Nat} (hT : ET P t e z size bytes)
    (hgd : o.guard = none) (s x : Operand) (ho : o.op = .call { callee := .builtin .append, args := #[s, x], argTypes := #[t, t] })
    {base : Nat} {v : Value} {n : Nat} {xs : List Value} (hown : Own w base size v n xs) (hs : a.eval s = v)
    {vx : Value} {m : Nat} {news : List Value} (hsrc : Sl w size vx m news) (hx : a.eval x = vx) (h1 : ∀ u ∈ news, u.oneCell' = true)
    (hbytes : (n + m) * bytes ≤ 140737488355328) (h63 : n + m ≤ maxLen) (hbase : base ≤ w.heap.size)
    (h : ∀ v' w', Own w' base size v' (n + m) (xs ++ news) → w.grownBy w' v.ownBlock → (∀ g, v'.ownBlock = some g → v.ownBlock = some g ∨ w.heap.size ≤ g) → wpList P ops Q rest (a.put o.dst v') w') : wpList P ops Q (o :: rest) a w := by
  obtain ⟨v', w', hr, h2, h3, h4⟩ := run_append_OwnX (P := P) w (ty := o.type) hT hown (hsrc.src hT.und h1) hbytes h63 hbase
  exact Lib.wpList_append_run w hgd s x t t ho _ _ hs hx _ _ hr (h v' w' h2 h3 h4)
end Go.Proofs.YtoddklfblcfoiaaDoor
