/-
  Law: append(v, make([]T, m)...) onto a slice of the call's own: m zeros come behind what it held. Conditions: bounds on lengths.
-/
import Derived.Test.YtobagfndagjajaaDoorCrcMem
import Derived.Lib.AppendZerosOnto
namespace Go.Proofs.YtobagfndagjajaaDoor.Crc
open Go.RowKit

theorem zeroCells_one (z : Value) (n : Nat) : Builtin.zeroCells #[z] n = (List.replicate n z).toArray := by
  apply Array.ext
  · simp [Builtin.zeroCells]
  · intro i h1 h2
    simp [Builtin.zeroCells, Nat.mod_one]

theorem run_append_room_zeros {P : Program} (w : World) (t tn ty e : TypeId) (i : TypeInfo) (z : Value) (kn : IntKind) (ht : P.underlying t = some (.slice e)) (htn : P.underlying tn = some (.int kn)) (hi : P.info? e = some i) (hz : i.zero = some z) (hs : i.size = 1) (hzc : z.cells = #[z])
    (g sLen sCap : Nat) (cur : Array Value) (hg : w.heap[g]? = some (.cells cur e (0, 0))) (m : Nat) (h0 : 0 < m) (h1 : z.oneCell' = true) (hroom : sLen + m ≤ sCap) (hfit : sLen + m ≤ cur.size) (h48 : m * i.bytes ≤ 281474976710656) (h63 : (m : Int) ≤ 9223372036854775807) :
    (Builtin.append_ #[t, tn] ty #[.slice (some ⟨g, 0, none⟩) sLen sCap, .int .i64 m]).run P w =
      .ok (.slice (some ⟨g, 0, none⟩) (sLen + m) sCap) (w.setRow g (cur.toList.take sLen ++ List.replicate m z ++ cur.toList.drop (sLen + m)).toArray) := by
  have hst := run_storeCells_at P g (sLen * i.size) e (List.replicate m z) 0 cur w hg (by simpa [hs] using hfit) (by intro u hu; rw [(List.mem_replicate.1 hu).2]; exact h1)
  have hn : m ≠ 0 := by omega
  have hw : IntKind.i64.wrap (m : Int) = m := by rw [IntKind.wrap_i64]; omega
  have h48i : ¬ (281474976710656 < (m : Int) * (i.bytes : Int)) := by
    rw [← Int.natCast_mul]
    omega
  have hneg : ¬ ((m : Int) < 0) := by omega
  simp only [Nat.add_zero, hs, Nat.mul_one, List.length_replicate] at hst
  simp [Builtin.append_, run_underlying ht, run_underlying htn, sizeOf, typeInfo, zeroValue, hi, hz, asInt, asIntOf, hw, hn, hneg, h48i, hroom, hzc, zeroCells_one, Addr.add_lit, hs, hst]

theorem wpL_append_zeros {P : Program} {w : World} {ops : Array Oper} {rest : List Oper} {o : Oper} {a : Act} {Q : Exit → Act → World → Prop} {t e tn : TypeId} {z : Value} {bytes : Nat} {kn : IntKind} (hT : ET P t e z 1 bytes) (hzc : z.cells = #[z]) (h1 : z.oneCell' = true) (htn : P.underlying tn = some (.int kn))
    (hgd : o.guard = none) (s x : Operand) (ho : o.op = .call { callee := .builtin .append, args := #[s, x], argTypes := #[t, tn] })
    {base : Nat} {v : Value} {n : Nat} {xs : List Value} (hs : a.eval s = v) (hown : w.ownsRow base e 1 v n xs)
    (m : Nat) {M : Int} (hx : a.eval x = .int .i64 M) (hM : M = (m : Int)) (h0 : 0 < m)
    (hbytes : (n + m) * bytes ≤ 140737488355328) (h63 : n + m ≤ maxLen) (hbase : base ≤ w.heap.size)
    (h : ∀ v' w', w'.ownsRow base e 1 v' (n + m) (xs ++ List.replicate m z) → w.grownBy w' v.ownBlock → wpList P ops Q rest (a.put o.dst v') w') : wpList P ops Q (o :: rest) a w := by
  subst hM
  obtain ⟨i, hi, hz0, hz1, hz2⟩ := info_parts hT.info
  subst hz2
  have h63' : n + m ≤ 9223372036854775807 := by simpa [maxLen] using h63
  have hmb : m * i.bytes ≤ 281474976710656 := by
    have : m * i.bytes ≤ (n + m) * i.bytes := Nat.mul_le_mul_right _ (by omega)
    omega
  have grown : ∀ (old : Nat), old < n + m → ∀ (row : Option Nat),
      (w.drew.alloc (.cells (xs.toArray ++ Builtin.zeroCells z.cells m ++ Builtin.zeroCells z.cells (grownCap w (n + m) old e - (n + m))) e)).ownsRow base e 1
        (.slice (some ⟨w.heap.size, 0, none⟩) (n + m) (grownCap w (n + m) old e)) (n + m) (xs ++ List.replicate m z) ∧
      w.grownBy (w.drew.alloc (.cells (xs.toArray ++ Builtin.zeroCells z.cells m ++ Builtin.zeroCells z.cells (grownCap w (n + m) old e - (n + m))) e)) row := by
    intro old ho row
    have hge := grownCap_ge w (n + m) old e
    have hcm : grownCap w (n + m) old e ≤ maxLen := grownCap_le_maxLen w (n + m) old e h63
    have hl := hown.1
    refine ⟨⟨by simp [hl], .inr ⟨w.heap.size, _, _, rfl, hbase, heap_alloc_new w.drew _, hge, hcm, ?_, ?_⟩⟩, ⟨rfl, rfl, rfl, by simp, fun k hk _ => Below.heap_alloc w.drew _ k hk⟩⟩
    · simp [hzc, zeroCells_one, hl]; omega
    · rw [hzc, zeroCells_one, zeroCells_one]
      simp only [Array.toList_append, Nat.mul_one]
      exact List.take_left' (by simp [hl])
  rcases hown.2 with ⟨rfl, rfl⟩ | ⟨g, cap, cur, rfl, hbg, hg, hnc, hcm, hcs, htake⟩
  · have hxe : xs = [] := List.eq_nil_of_length_eq_zero (by simpa using hown.1)
    subst hxe
    have hr := Lib.run_append_nil_zeros (P := P) w t tn o.type e i z .i64 kn hT.und htn hi hz0 m h0 (by omega) (by omega) hmb
    have hgr := grown 0 (by omega) (Value.ownBlock (.slice none 0 0))
    simp only [Nat.zero_add, List.nil_append, Array.empty_append] at hgr h ⊢
    exact Lib.wpList_append_run w hgd s x t tn ho _ _ hs hx _ _ hr (h _ _ hgr.1 hgr.2)
  · by_cases hroom : n + m ≤ cap
    · have hr := run_append_room_zeros (P := P) w t tn o.type e i z kn hT.und htn hi hz0 hz1 hzc g n cap cur hg m h0 h1 hroom (by omega) hmb (by omega)
      refine Lib.wpList_append_run w hgd s x t tn ho _ _ hs hx _ _ hr (h _ _ ⟨by have := hown.1; simp; omega, .inr ⟨g, cap, _, rfl, hbg, setRow_heap w g cur _ e _ hg, hroom, hcm, ?_, ?_⟩⟩ ⟨rfl, rfl, rfl, by simp, fun k _ hk => setRow_other w g k _ (fun e => hk (by simp [Value.ownBlock, e]))⟩)
      · simp; omega
      · rw [Nat.mul_one] at htake
        simp only [Nat.mul_one]
        rw [htake]
        exact List.take_left' (by have := hown.1; simp; omega)
    · have holds : ∀ j u, xs[j]? = some u → w.drew.cell? ((⟨g, 0, none⟩ : Addr).add j) = some u := hown.cells (g := g) rfl
      have hold := run_firstCells_some (P := P) w.drew i.size n ⟨g, 0, none⟩ n cap xs (by rw [hz1]; exact hown.1) holds
      have hr := Lib.run_append_grow_zeros (P := P) w t tn o.type e i z .i64 kn hT.und htn hi hz0 (some ⟨g, 0, none⟩) n cap xs hold m h0 (by omega) (by omega) (by omega) hmb (growslice_fits (by omega) hbytes)
      have hgr := grown cap (by omega) (Value.ownBlock (.slice (some ⟨g, 0, none⟩) n cap))
      exact Lib.wpList_append_run w hgd s x t tn ho _ _ hs hx _ _ hr (h _ _ hgr.1 hgr.2)

end Go.Proofs.YtobagfndagjajaaDoor.Crc
