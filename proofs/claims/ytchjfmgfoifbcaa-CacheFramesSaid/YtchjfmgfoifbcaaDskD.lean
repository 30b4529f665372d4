/-
  settle of a disk, with each of the two functions that tell what lasts; whether a number stands in a list. Conditions: the disk reads as one.
-/
import Derived.Test.YtchjfmgfoifbcaaDskB
import Derived.Test.YtchjfmgfoifbcaaDskC
namespace Go.Proofs.Ytchjfmgfoifbcaa
open Go.RowKit
set_option linter.unusedVariables false
set_option linter.unusedSimpArgs false
set_option maxRecDepth 100000

theorem Sl.intLen {w : World} {a : Option Addr} {n c : Nat} {l : List Int} (h : Sl w 1 (.slice a n c) n (ints l)) : l.length = n ∧ n ≤ 9223372036854775807 := by
  have hl := h.cap
  rw [ints_length] at hl
  omega
theorem Sl.intAt {w : World} {a : Option Addr} {n c k : Nat} {l : List Int} (h : Sl w 1 (.slice a n c) n (ints l)) (hk : k < n) :
    ∃ b off, a = some ⟨b, off, none⟩ ∧ w.cell? ⟨b, off + k, none⟩ = some (.int .i64 (l.getD k 0)) := by
  have hl := h.intLen
  obtain ⟨b, off, ha, _, hc⟩ := h.addr (by omega)
  exact ⟨b, off, ha, hc _ _ (ints_get l k (by omega))⟩
theorem notin_take {l : List Int} {x : Int} {k : Nat} (hk : k < l.length) (h : x ∉ l.take k) (hx : ¬ x = l.getD k 0) : x ∉ l.take (k + 1) := by
  rw [List.take_succ_eq_append_getElem hk, List.mem_append, List.mem_singleton]
  rw [List.getD_eq_getElem?_getD, List.getElem?_eq_getElem hk] at hx
  exact fun e => e.elim h hx
theorem in_getD {l : List Int} {k : Nat} (hk : k < l.length) : l.getD k 0 ∈ l := by
  rw [List.getD_eq_getElem?_getD, List.getElem?_eq_getElem hk]
  exact List.getElem_mem hk
set_option maxHeartbeats 800000 in
theorem index_any (a : Option Addr) (n c : Nat) (l : List Int) (x : Int) (w : World) (hl : Sl w 1 (.slice a n c) n (ints l)) (B : Bool) (H : Hid (B = decide (x ∈ l))) :
    Calls Try.prog 55 #[.slice a n c, .int .i64 x] w fun e w' => (∃ z : Int, e = .returned (.int .i64 z) ∧ Hid (decide (0 ≤ z) = B)) ∧ Below w.heap.size w w' := by
  have hn := hl.intLen
  have HN := Lib.hid hn.1
  have hn2 := hn.2
  clear hn
  go_enter Try.func55, Try.ntmps55
  go_wp2_with fail
  go_loopw [5, 8] (fun v5 v8 wr => ∃ k : Nat, k ≤ n ∧ v8 = .int .i64 k ∧ Below w.heap.size w wr ∧ Hid (x ∉ l.take k)) (fun _ v8 _ => n - (intOf v8).toNat)
  case atStart => exact ⟨0, Nat.zero_le _, rfl, Below.refl _ _, Lib.hid (by simp)⟩
  case round =>
    obtain ⟨k, hk, rfl, hb, HT⟩ := hrel
    by_cases hkn : k = n
    · subst hkn
      go_wp2_with fail
      go_ret
      have e := HT.out
      rw [List.take_of_length_le (by rw [HN.out]; exact Nat.le_refl _)] at e
      exact ⟨⟨_, rfl, Lib.hid (by rw [H.out, decide_eq_false e]; rfl)⟩, hb⟩
    · have hlt : k < n := by omega
      have hlt' : (k : Int) < n := by omega
      obtain ⟨b1, o1, rfl, hc1⟩ := (hl.below hb).intAt hlt
      have HM : Hid (l.getD k 0 ∈ l) := in_getD (by rw [HN.out]; exact hlt)
      have HT2 : Hid (¬ x = l.getD k 0 → x ∉ l.take (k + 1)) := notin_take (by rw [HN.out]; exact hlt) HT.out
      generalize l.getD k 0 = y at hc1 HM HT2
      by_cases hxy : x = y
      · subst hxy
        go_wp2_with fail
        go_ret
        exact ⟨⟨_, rfl, Lib.hid (by rw [H.out, decide_eq_true HM.out]; exact decide_eq_true (Int.natCast_nonneg k))⟩, hb⟩
      · have hne : (x == y) = false := by rw [beq_eq_false_iff_ne]; exact hxy
        have HT3 := Lib.hid (HT2.out hxy)
        clear hxy HT2
        go_wp2_with fail
        exact ⟨⟨k + 1, by omega, by go_num, hb, HT3⟩, by simp [intOf]; omega⟩
theorem contains_int (a : Option Addr) (n c : Nat) (l : List Int) (x : Int) (w : World) (hl : Sl w 1 (.slice a n c) n (ints l)) (B : Bool) (H : Hid (B = decide (x ∈ l))) :
    Calls Try.prog 45 #[.slice a n c, .int .i64 x] w fun e w' => e = .returned (.bool B) ∧ Below w.heap.size w w' := by
  go_enter Try.func45, Try.ntmps45
  go_wp2_with fail
  refine (index_any a n c l x w hl B H).mono ?_
  rintro e w1 ⟨⟨z, rfl, hz⟩, hb⟩
  go_wp2_with fail
  go_ret
  rw [← hz.out]
  exact ⟨rfl, hb⟩
theorem bar1_any (i x : Int) (a : Option Addr) (n c : Nat) (w : World) : Calls Try.prog 52 #[.int .i64 i, .agg #[.int .i64 x, .slice a n c]] w fun e w' => e = .returned (.tuple #[.slice a n c, .bool true]) ∧ Below w.heap.size w w' := by
  go_enter Try.func52, Try.ntmps52
  go_wp2_with fail
  go_ret2
  exact ⟨rfl, (Below.refl _ _).alloc (Nat.le_refl _) _⟩
set_option maxHeartbeats 800000 in
theorem on1_any (i x : Int) (a : Option Addr) (n c : Nat) (tb kb : Nat) (torn : Int) (ak : Option Addr) (nk ck : Nat) (keep : List Int) (w : World) (htb : w.cell? ⟨tb, 0, none⟩ = some (.int .i64 torn)) (hkb : w.cell? ⟨kb, 0, none⟩ = some (.slice ak nk ck)) (hk : Sl w 1 (.slice ak nk ck) nk (ints keep))
    (v : Value) (B : Bool) (H : Hid ((v, B) = if i = torn then (.slice none 0 0, true) else (.slice a n c, decide (i ∈ keep)))) :
    Calls Try.prog 44 #[.int .i64 i, .agg #[.int .i64 x, .slice a n c], .pointer (some ⟨tb, 0, none⟩), .pointer (some ⟨kb, 0, none⟩)] w fun e w' => e = .returned (.tuple #[v, .bool B]) ∧ Below w.heap.size w w' := by
  by_cases hi : i = torn
  · have h := H.out
    rw [if_pos hi] at h
    cases h
    subst hi
    clear H
    have hb := (Below.refl w.heap.size w).alloc (Nat.le_refl _) (.cells #[.int .i64 x, .slice a n c] 78)
    have d1 := (hb.cell (p := ⟨tb, 0, none⟩) (lt_of_cell htb)).trans htb
    go_enter Try.func44, Try.ntmps44
    go_wp2_with fail
    go_ret2
    exact ⟨rfl, hb⟩
  · have h := H.out
    rw [if_neg hi] at h
    have hv := (Prod.mk.inj h).1
    have hB := Lib.hid (Prod.mk.inj h).2
    subst hv
    clear H h
    have hb := (Below.refl w.heap.size w).alloc (Nat.le_refl _) (.cells #[.int .i64 x, .slice a n c] 78)
    have d1 := (hb.cell (p := ⟨tb, 0, none⟩) (lt_of_cell htb)).trans htb
    have d2 := (hb.cell (p := ⟨kb, 0, none⟩) (lt_of_cell hkb)).trans hkb
    have d3 := (Row.new w [.int .i64 x, .slice a n c] 78).cell 1
    have hk1 := hk.below hb
    have hne : (i == torn) = false := by rw [beq_eq_false_iff_ne]; exact hi
    clear hi
    go_enter Try.func44, Try.ntmps44
    go_wp2_with fail
    generalize (w.alloc (.cells #[.int .i64 x, .slice a n c] 78)) = w1 at *
    have q2 := later_cell d2
    have q3 := later_cell d3
    refine wp_region_idx Rb Rb_refl Rb_trans [(0,0),(0,1),(0,2),(0,3),(1,4),(0,5),(0,6)] (by kernel_rfl) (by kernel_rfl) (by kernel_rfl) ?_
    simp only [pickO, List.getD_cons_succ, List.getD_cons_zero]
    refine wpCan_seg 4 (by kernel_rfl) ?_
    simp only [List.take_succ_cons, List.take_zero, List.drop_succ_cons, List.drop_zero, List.map_cons, List.map_nil]
    iterate 4 (go_big_quiet_step (fail))
    refine wpQuiet_nil ?_
    clear q2 q3
    refine wpCan_list (k := 0) (fun KK hK => ?_) (fun _ => Rb_refl _)
    go_wp2_with fail
    refine (contains_int ak nk ck keep i _ hk1.drew B hB).mono ?_
    rintro e w2 ⟨rfl, hb2⟩
    go_wp2_with fail
    refine hK _ _ (fun _ => hb2) ?_
    clear hK KK
    refine wpCan_seg 2 (by kernel_rfl) ?_
    simp only [List.take_succ_cons, List.take_zero, List.drop_succ_cons, List.drop_zero, List.map_cons, List.map_nil]
    iterate 2 (go_big_quiet_step (fail))
    refine wpQuiet_nil ?_
    unfold wpCan
    go_wp2_with fail
    go_ret2
    exact ⟨rfl, hb.drew.trans (hb2.mono hb.size)⟩

/-! ### a sector, and all that is pending, anew -/
theorem DkIn.setS {e : TypeId} {c : Nat} {col : Nat → Nat} {w w' : World} {b : Nat} {D : Dk} {g off cS : Nat} {aP : Option Addr} {cP : Nat} {sv pv : List Value} (h : DkIn e c col w b D (some ⟨g, off, none⟩) cS aP cP sv pv) {x : Nat} {u : Value} {l : List UInt8}
    (hu : Imm col w u l) (hg : w.grownBy w' (some g)) (ho : Own w' 0 1 (.slice (some ⟨g, off, none⟩) D.S.length cS) D.S.length (sv.set x u)) :
    DkIn e c col w' b ⟨D.S.set x l, D.P, D.dead, D.armed, D.steps⟩ (some ⟨g, off, none⟩) cS aP cP (sv.set x u) pv := by
  have hcg : col g = c := h.so.2 g rfl
  have k : St (fun x => x = c) col w col w' := St.one hg _ _ hcg
  have hC0 : ¬ (0 = c) := fun e => h.nz e.symm
  have hlen : (D.S.set x l).length = D.S.length := List.length_set
  have hgb : some b ≠ some g := fun e => h.sb (by simp [Value.ownBlock]; exact (Option.some.inj e).symm)
  refine ⟨?_, h.nz, h.cb, ?_, ?_, h.po.keep hg ?_, h.pi.st k hC0, ?_, h.pb, ?_⟩
  · rw [hlen]; exact h.row.grown hg hgb
  · rw [hlen]; exact ⟨ho, h.so.2⟩
  · exact (h.si.st k hC0).set (hu.st k hC0) x
  · exact .inr (h.ap g rfl)
  · rw [hlen]; exact h.sb
  · rw [hlen]; exact h.ap
theorem DkIn.clear {e : TypeId} {c : Nat} {col : Nat → Nat} {w w' : World} {b : Nat} {D : Dk} {aS : Option Addr} {cS : Nat} {aP : Option Addr} {cP : Nat} {sv pv : List Value} (h : DkIn e c col w b D aS cS aP cP sv pv)
    (hg : w.grownBy w' (some b)) (hr : Row w' b e [.slice aS D.S.length cS, .slice none 0 0, .bool D.dead, .int .i64 D.armed, .int .i64 D.steps]) :
    DkIn e c col w' b ⟨D.S, [], D.dead, D.armed, D.steps⟩ aS cS none 0 sv [] := by
  have k : St (fun x => x = c) col w col w' := St.one hg _ _ h.cb
  have hC0 : ¬ (0 = c) := fun e => h.nz e.symm
  exact ⟨hr, h.nz, h.cb, h.so.keep hg (.inr h.sb), h.si.st k hC0, OwnC.nil _ _ _ _, .nil, h.sb, by simp [Value.ownBlock], fun g _ e => by simp [Value.ownBlock] at e⟩
end Go.Proofs.Ytchjfmgfoifbcaa
