/-
  'Apart', walked. Conditions: eight answers at most, of 2^20 bytes at most, each in memory of its own.
-/
import Derived.Test.YtobagfndagjajaaDoorApartB
namespace Go.Proofs.YtobagfndagjajaaDoor
open Go.RowKit
set_option linter.unusedVariables false
set_option linter.unusedSimpArgs false

theorem etH : ET Tryd.prog 53 55 (.agg #[.slice none 0 0, .string ByteArray.empty, .slice none 0 0]) 3 64 := ⟨Tryd.underlying53, by kernel_rfl, rfl, by decide⟩
/-- while the first loop goes: i of the answers have got their numbers -/
structure Put1 (w wr : World) (A Bs k i : Nat) (v : Value) (R : List Rc) : Prop where
  len : R.length = k
  done : ∀ (j : Nat) (r : Rc), j < i → R[j]? = some r → r.t = List.replicate 10 (UInt8.ofNat j)
  todo : ∀ (j : Nat) (r : Rc), i ≤ j → R[j]? = some r → r.t = [] ∧ r.more = r.b
  says : ∀ (j : Nat) (r : Rc), R[j]? = some r → r.s = r.l ∧ r.n ≤ 1048576
  row : Row wr A 22 (R.map (·.b))
  own : Own wr w.heap.size 3 v i (hcells (R.take i))
  recs : Recs wr Bs (fun g => g = A ∨ v.ownBlock = some g) R
  below : Below Bs w wr
  lt : A < w.heap.size
theorem hcells_snoc (R : List Rc) (r : Rc) : hcells (R ++ [r]) = hcells R ++ [r.b, .string (str r.s), r.more] := by simp [hcells]
theorem rc_snoc (R : List Rc) (i : Nat) (r : Rc) (h : R[i]? = some r) : R.take (i + 1) = R.take i ++ [r] := by
  obtain ⟨h1, h2⟩ := List.getElem?_eq_some_iff.1 h
  rw [List.take_succ_eq_append_getElem h1, h2]
structure Put2 (w wr : World) (A Bs k i H q : Nat) (v : Value) (R : List Rc) (rq : Rc) : Prop where
  len : R.length = k
  done : ∀ (j : Nat) (r : Rc), j < i → R[j]? = some r → r.t = List.replicate 10 (UInt8.ofNat j)
  todo : ∀ (j : Nat) (r : Rc), i < j → R[j]? = some r → r.t = [] ∧ r.more = r.b
  says : ∀ (j : Nat) (r : Rc), R[j]? = some r → r.s = r.l ∧ r.n ≤ 1048576
  row : Row wr A 22 (R.map (·.b))
  own : Own wr w.heap.size 3 v i (hcells (R.take i))
  recs : Recs wr Bs (fun g => g = A ∨ v.ownBlock = some g ∨ g = H) R
  below : Below Bs w wr
  lt : A < w.heap.size
  at_ : R[i]? = some rq
  t : rq.t = List.replicate q (UInt8.ofNat i)
  hrow : Row wr H 55 [rq.b, .string (str rq.l), rq.more]
  hH : w.heap.size ≤ H
  vH : v.ownBlock ≠ some H
theorem set_map_b (R : List Rc) (i : Nat) (r r' : Rc) (h : R[i]? = some r) (hb : r'.b = r.b) : (R.set i r').map (·.b) = R.map (·.b) := by
  rw [List.map_set]
  apply List.ext_getElem?
  intro j
  rw [List.getElem?_set]
  split
  · rename_i e
    subst e
    have hlt := (List.getElem?_eq_some_iff.1 h).1
    rw [List.getElem?_map, h]
    simp [hlt, hb]
  · rfl
theorem set_at {R : List Rc} {i : Nat} {r r' : Rc} (h : R[i]? = some r) {j : Nat} {s : Rc} (hs : (R.set i r')[j]? = some s) : (j = i ∧ s = r') ∨ (j ≠ i ∧ R[j]? = some s) := by
  rw [List.getElem?_set] at hs
  split at hs
  · rename_i e
    subst e
    left
    first | exact ⟨rfl, (Option.some.inj hs).symm⟩ | (rw [if_pos (List.getElem?_eq_some_iff.1 h).1] at hs; exact ⟨rfl, (Option.some.inj hs).symm⟩)
  · rename_i e
    exact .inr ⟨fun h => e h.symm, hs⟩
theorem Put2.next {w wr wa w' : World} {A Bs k i H q : Nat} {v v' : Value} {R : List Rc} {rq : Rc} (p : Put2 w wr A Bs k i H q v R rq) (hBs : Bs ≤ w.heap.size) (hwa : Below wr.heap.size wr wa)
    (ho : Own w' Bs 1 v' (rq.n + rq.t.length + 1) (bvs (rq.l ++ rq.t) ++ bvs [UInt8.ofNat i])) (hg : wa.grownBy w' rq.more.ownBlock)
    (hc : (∃ g off cap, rq.more = .slice (some ⟨g, off, none⟩) (rq.n + rq.t.length) cap ∧ v' = .slice (some ⟨g, off, none⟩) (rq.n + rq.t.length + 1) cap) ∨ ((∀ g, v'.ownBlock = some g → wa.heap.size ≤ g) ∧ wa.grownBy w' none)) :
    Put2 w (w'.setCell ⟨H, 2, none⟩ v') A Bs k i H (q + 1) v (R.set i ⟨rq.b, v', rq.n, rq.l, rq.s, rq.t ++ [UInt8.ofNat i]⟩) ⟨rq.b, v', rq.n, rq.l, rq.s, rq.t ++ [UInt8.ofNat i]⟩ := by
  have hiR := (List.getElem?_eq_some_iff.1 p.at_).1
  have ra := p.recs.below hwa
  have hda := ra.hd i rq p.at_
  obtain ⟨hd', hbk⟩ := hda.put ho hg hc
  have hmg := Mods.grown hg
  have hA : A < wa.heap.size := Nat.lt_of_lt_of_le p.row.lt hwa.size
  have hHl : H < wa.heap.size := Nat.lt_of_lt_of_le p.hrow.lt hwa.size
  have r1 := ra.touch p.at_ hmg (fun g hg => .inr hg) hd' hbk (fun g hx => by
    rcases hx with rfl | hx | rfl
    · exact hA
    · exact Nat.lt_of_lt_of_le (p.own.lives g hx) hwa.size
    · exact hHl)
  have hms := Mods.set w' H 2 v'
  have r2 := r1.mods hms (fun g hg _ => .inr (.inr hg))
  have hnA : ¬ rq.more.ownBlock = some A := fun h => p.recs.off i rq A p.at_ (.inr h) (.inl rfl)
  have hnH : ¬ rq.more.ownBlock = some H := fun h => p.recs.off i rq H p.at_ (.inr h) (.inr (.inr rfl))
  have hnv : ∀ g, v.ownBlock = some g → ¬ rq.more.ownBlock = some g := fun g hv h => p.recs.off i rq g p.at_ (.inr h) (.inr (.inl hv))
  have hHA : A ≠ H := by have := p.lt; have := p.hH; omega
  refine ⟨by rw [List.length_set]; exact p.len, fun j r hj hr => ?_, fun j r hj hr => ?_, fun j r hr => ?_, ?_, ?_, r2, ?_, p.lt, ?_, ?_, ?_, p.hH, p.vH⟩
  · rcases set_at p.at_ hr with ⟨rfl, _⟩ | ⟨_, hr⟩
    · omega
    · exact p.done j r hj hr
  · rcases set_at p.at_ hr with ⟨rfl, _⟩ | ⟨_, hr⟩
    · omega
    · exact p.todo j r hj hr
  · rcases set_at p.at_ hr with ⟨rfl, rfl⟩ | ⟨_, hr⟩
    · exact p.says _ rq p.at_
    · exact p.says j r hr
  · rw [set_map_b R i rq ⟨rq.b, v', rq.n, rq.l, rq.s, rq.t ++ [UInt8.ofNat i]⟩ p.at_ rfl]
    exact ((p.row.after hwa).mods hmg hnA).mods hms hHA
  · rw [List.take_set_of_le (Nat.le_refl _)]
    exact ((p.own.below hwa).mods hmg hnv).mods hms (fun g hv e => p.vH (by rw [hv, e]))
  · have h1 := p.below.trans (hwa.mono p.below.size |>.mono hBs)
    have h2 := below_mods h1 hmg (fun g hg => (hda.lives g (.inr hg)).1) (Nat.le_trans hBs (Nat.le_trans p.below.size hwa.size))
    exact below_mods h2 hms (fun g e => by have := p.hH; omega) (by have := hmg.size; have := p.below.size; have := hwa.size; omega)
  · rw [List.getElem?_set_self hiR]
  · rw [p.t, List.replicate_succ']
  · have h3 := ((p.hrow.after hwa).mods hmg hnH).set 2 v'
    exact h3
theorem Put2.finish {w wr wa w' : World} {A Bs k i H : Nat} {v v' : Value} {R : List Rc} {rq : Rc} (p : Put2 w wr A Bs k i H 10 v R rq) (hBs : Bs ≤ w.heap.size) (hwa : Below wr.heap.size wr wa)
    (ho : Own w' w.heap.size 3 v' (i + 1) (hcells (R.take i) ++ [rq.b, .string (str rq.l), rq.more])) (hg : wa.grownBy w' v.ownBlock)
    (hc : ∀ g, v'.ownBlock = some g → v.ownBlock = some g ∨ wa.heap.size ≤ g) : Put1 w w' A Bs k (i + 1) v' R := by
  have ra := p.recs.below hwa
  have hmg := Mods.grown hg
  have r1 := ra.mods hmg (fun g hg _ => .inr (.inl hg))
  have hAv : ¬ v.ownBlock = some A := fun h => by have := p.own.lt A h; have := p.lt; omega
  refine ⟨p.len, fun j r hj hr => ?_, fun j r hj hr => p.todo j r (by omega) hr, p.says, (p.row.after hwa).mods hmg hAv, ?_, ?_, ?_, p.lt⟩
  · by_cases e : j = i
    · subst e
      rw [p.at_] at hr
      cases hr
      exact p.t
    · exact p.done j r (by omega) hr
  · have hs := (p.says i rq p.at_).1
    rw [rc_snoc R i rq p.at_, hcells_snoc, hs]
    exact ho
  · refine ⟨r1.hd, r1.apart, (ra.reX (Y := fun g => g = A ∨ v'.ownBlock = some g) fun g hy => ?_).off⟩
    rcases hy with rfl | hy
    · exact .inl (.inl rfl)
    · rcases hc g hy with h | h
      · exact .inl (.inr (.inl h))
      · exact .inr h
  · have h1 := p.below.trans (hwa.mono p.below.size |>.mono hBs)
    exact below_mods h1 hmg (fun g hg => by have := p.own.lt g hg; omega) (Nat.le_trans hBs (Nat.le_trans p.below.size hwa.size))
theorem flip_val (x : UInt8) : bits BinOp.xor IntKind.u8 IntKind.u8.max (x.toNat : Int) = ((UInt8.ofNat (255 - x.toNat)).toNat : Int) := by
  have h : ∀ n : Fin 256, bits BinOp.xor IntKind.u8 IntKind.u8.max (n.val : Int) = ((UInt8.ofNat (255 - n.val)).toNat : Int) := by decide +kernel
  exact h ⟨x.toNat, x.toNat_lt⟩
/-- while the second loop goes: each has its number; all but some say what they said -/
structure Put3 (w wr : World) (Bs k : Nat) (v : Value) (R : List Rc) (but : Nat → Prop) : Prop where
  len : R.length = k
  says : ∀ (j : Nat) (r : Rc), R[j]? = some r → r.t = List.replicate 10 (UInt8.ofNat j) ∧ r.n ≤ 1048576 ∧ (¬ but j → r.s = r.l)
  own : Own wr w.heap.size 3 v k (hcells R)
  recs : Recs wr Bs (fun g => v.ownBlock = some g) R
  below : Below Bs w wr
theorem Put1.end {w wr : World} {A Bs k : Nat} {v : Value} {R : List Rc} (p : Put1 w wr A Bs k k v R) : Put3 w wr Bs k v R (fun _ => False) := by
  refine ⟨p.len, fun j r hr => ?_, ?_, ?_, p.below⟩
  · have hj := (List.getElem?_eq_some_iff.1 hr).1
    rw [p.len] at hj
    exact ⟨p.done j r hj hr, (p.says j r hr).2, fun _ => (p.says j r hr).1⟩
  · have := p.own
    rw [List.take_of_length_le (by rw [p.len]; exact Nat.le_refl _)] at this
    exact this
  · exact ⟨p.recs.hd, p.recs.apart, fun i r g hi hg hx => p.recs.off i r g hi hg (.inr hx)⟩
theorem Put3.told {w wr : World} {Bs k : Nat} {v : Value} {R : List Rc} (p : Put3 w wr Bs k v R (fun _ => False)) : Told R :=
  fun i r hr => ⟨(p.says i r hr).2.2 (fun h => h), (p.says i r hr).1, (p.says i r hr).2.1⟩
theorem Put3.after {w wr wa : World} {Bs k : Nat} {v : Value} {R : List Rc} {but : Nat → Prop} (p : Put3 w wr Bs k v R but) (hb : Below wr.heap.size wr wa) (hBs : Bs ≤ wr.heap.size) : Put3 w wa Bs k v R but :=
  ⟨p.len, p.says, p.own.below hb, p.recs.below hb, p.below.trans (hb.mono hBs)⟩
theorem Put3.weak {w wr : World} {Bs k : Nat} {v : Value} {R : List Rc} {but but' : Nat → Prop} (p : Put3 w wr Bs k v R but) (h : ∀ j, but j → but' j) : Put3 w wr Bs k v R but' :=
  ⟨p.len, fun j r hr => ⟨(p.says j r hr).1, (p.says j r hr).2.1, fun hn => (p.says j r hr).2.2 (fun hb => hn (h j hb))⟩, p.own, p.recs, p.below⟩
theorem Put3.flip {w wr w2 : World} {Bs k i q : Nat} {v : Value} {R : List Rc} {r : Rc} {x : UInt8} (p : Put3 w wr Bs k v R (fun j => j = i)) (hBs : Bs ≤ wr.heap.size) (hr : R[i]? = some r)
    (hd : Hd w2 Bs ⟨r.b, r.more, r.n, r.l.set q x, r.s, r.t⟩) (hm : Mods r.blk wr w2) : Put3 w w2 Bs k v (R.set i ⟨r.b, r.more, r.n, r.l.set q x, r.s, r.t⟩) (fun j => j = i) := by
  refine ⟨by rw [List.length_set]; exact p.len, fun j s hs => ?_, ?_, ?_, ?_⟩
  · rcases set_at hr hs with ⟨rfl, rfl⟩ | ⟨hj, hs⟩
    · exact ⟨(p.says _ r hr).1, (p.says _ r hr).2.1, fun h => absurd rfl h⟩
    · exact p.says j s hs
  · rw [hcells_turn R i r hr]
    exact p.own.mods hm fun g hg hb => p.recs.off i r g hr hb hg
  · exact p.recs.touch hr hm (fun g h => h) hd (fun g h => .inl h) fun g hx => p.own.lives g hx
  · exact below_mods p.below hm (fun g hg => ((p.recs.hd i r hr).lives g hg).1) hBs
theorem Put3.say {w wr : World} {Bs k i g off c : Nat} {R : List Rc} {r : Rc} (p : Put3 w wr Bs k (.slice (some ⟨g, off, none⟩) k c) R (fun j => j = i)) (hBs : Bs ≤ w.heap.size) (hr : R[i]? = some r) :
    Put3 w (wr.setCell ⟨g, off + (i * 3 + 1), none⟩ (.string (str r.l))) Bs k (.slice (some ⟨g, off, none⟩) k c) (R.set i ⟨r.b, r.more, r.n, r.l, r.l, r.t⟩) (fun _ => False) := by
  have hms := Mods.set wr g (off + (i * 3 + 1)) (.string (str r.l))
  have hgw : w.heap.size ≤ g := p.own.lt g rfl
  have hwr : w.heap.size ≤ wr.heap.size := p.below.size
  refine ⟨by rw [List.length_set]; exact p.len, fun j s hs => ?_, ?_, ?_, ?_⟩
  · rcases set_at hr hs with ⟨rfl, rfl⟩ | ⟨hj, hs⟩
    · exact ⟨(p.says _ r hr).1, (p.says _ r hr).2.1, fun _ => rfl⟩
    · exact ⟨(p.says j s hs).1, (p.says j s hs).2.1, fun _ => (p.says j s hs).2.2 hj⟩
  · have := p.own.set (i * 3 + 1) (.string (str r.l))
    rw [hcells_says R i r hr] at this
    exact this
  · have h1 := p.recs.touch (r' := ⟨r.b, r.more, r.n, r.l, r.l, r.t⟩) hr (Mods.refl (fun _ => False) wr) (fun g h => h.elim) (p.recs.hd i r hr) (fun g h => .inl h) fun g hx => p.own.lives g hx
    exact h1.mods hms (fun g' e _ => by rw [e]; rfl)
  · exact below_mods p.below hms (fun g' e => by omega) (Nat.le_trans hBs hwr)
set_option maxHeartbeats 2000000 in
theorem apart_any (A k : Nat) (R0 : List Rc) (Bs : Nat) (w : World) (hBs : Bs ≤ w.heap.size) (hk8 : k ≤ 8) (h0 : Put1 w w A Bs k 0 (.slice none 0 0) R0) :
    Calls Tryd.prog 15 #[.slice (some ⟨A, 0, none⟩) k k] w fun e w' => e = .returned (.bool true) ∧ Below Bs w w' := by
  go_enter Tryd.func15, Tryd.ntmps15
  go_wp2_with fail
  go_loopw [3, 4, 5, 6] (fun v3 v4 v5 v6 wr => ∃ (i : Nat) (R : List Rc), i ≤ k ∧ v4 = .int .i64 i ∧ Put1 w wr A Bs k i v3 R) (fun _ v4 _ _ _ => k - (intOf v4).toNat)
  case atStart => exact ⟨0, R0, Nat.zero_le _, rfl, h0⟩
  case round =>
    obtain ⟨i, R, hi, rfl, p⟩ := hrel
    obtain ⟨a3, c3, rfl⟩ := p.own.form
    by_cases hik : i = k
    rotate_left
    · have hlt : i < k := by omega
      have hlt' : (i : Int) < k := by omega
      have hiR : i < R.length := by rw [p.len]; exact hlt
      obtain ⟨r, hr⟩ : ∃ r, R[i]? = some r := ⟨_, List.getElem?_eq_getElem hiR⟩
      obtain ⟨ht0, hm0⟩ := p.todo i r (Nat.le_refl _) hr
      obtain ⟨hs0, hn0⟩ := p.says i r hr
      have hd := p.recs.hd i r hr
      have hc : wr.cell? ⟨A, i, none⟩ = some r.b := by rw [p.row.cell, List.getElem?_map, hr]; rfl
      have hwr : w.heap.size ≤ wr.heap.size := by have := p.below.size; exact this
      obtain ⟨a1, c1', hb⟩ := hd.own.form
      have hsl := hd.own.sl
      rw [hb] at hc hsl
      have k1 := conv_later (w := wr.drew) hsl.drew
      have q1 := later_cell hc
      obtain ⟨n, hn⟩ : ∃ n, n = r.n := ⟨_, rfl⟩
      obtain ⟨S, hS⟩ : ∃ S, S = str r.l := ⟨_, rfl⟩
      rw [← hn] at k1 q1
      rw [← hS] at k1
      have HR := Lib.hid hr
      have HB := Lib.hid hb
      have HS := Lib.hid hS
      have HN := Lib.hid hn
      have HT0 := Lib.hid ht0
      have HM0 := Lib.hid hm0
      have HS0 := Lib.hid hs0
      clear hr hb hc hsl hS hn ht0 hm0 hs0 hd
      go_wp2_with fail
      refine wp_region_lex Rb Rb_refl Rb_trans [0,0,0,0,0,0,0,0,0,0,1,2] (by kernel_rfl) (by kernel_rfl) ?_
      refine wpCan_seg 10 (by kernel_rfl) ?_
      simp only [List.zip_cons_cons, List.zip_nil_left, List.take_succ_cons, List.take_zero, List.drop_succ_cons, List.drop_zero, List.map_cons, List.map_nil]
      iterate 10 (go_big_quiet_step (fail))
      refine wpQuiet_nil ?_
      clear k1 q1
      refine wpCan_list (k := 0) (fun K hK => ?_) (fun _ => Rb_refl _)
      go_wp2_with fail
      refine hK _ _ (fun _ => ⟨rfl, rfl, rfl, by simp, fun k hk => Below.heap_alloc wr _ k hk⟩) ?_
      clear hK K
      have hH0 : Row (wr.alloc (.cells #[.slice none 0 0, .string ⟨#[]⟩, .slice none 0 0] 55)).drew wr.heap.size 55 [.slice none 0 0, .string ⟨#[]⟩, .slice none 0 0] := (Row.new wr [.slice none 0 0, .string ⟨#[]⟩, .slice none 0 0] 55).drew
      have hm9 : Mods (fun _ => False) wr (wr.alloc (.cells #[.slice none 0 0, .string ⟨#[]⟩, .slice none 0 0] 55)).drew := ((Mods.refl _ _).alloc _).drew
      obtain ⟨H, hH⟩ : ∃ H, H = wr.heap.size := ⟨_, rfl⟩
      rw [← hH] at hH0 ⊢
      have HH := Lib.hid hH
      clear hH
      generalize (wr.alloc (.cells #[.slice none 0 0, .string ⟨#[]⟩, .slice none 0 0] 55)).drew = w9 at hH0 hm9 ⊢
      refine wpCan_list (k := 1) (fun K hK => ?_) (fun h => by cases h)
      go_wp2_with (refine wpL_storeRow rfl _ _ _ rfl rfl rfl hH0 (by kernel_rfl) rfl rfl ?_; intro w8 hg8 hr8)
      refine hK _ _ (fun h => by cases h) ?_
      clear hK K
      unfold wpCan
      have hm8 : Mods (fun g => g = H) wr w8 := (hm9.mono (fun _ h => h.elim)).trans ((Mods.grown hg8).mono (fun g h => (Option.some.inj h).symm))
      have hlt8 := hr8.lt
      clear hm9 hg8 hH0
      have c0 := hr8.cell 0
      have c1 := hr8.cell 1
      have c2 := hr8.cell 2
      have f2 := hr8.free 2
      go_wp2_with fail
      have hlen : 3 * 0 = 0 := rfl
      obtain ⟨w7, hw7⟩ : ∃ w7, w7 = w8.setCell ⟨H, 2, none⟩ (.slice a1 n c1') := ⟨_, rfl⟩
      have hr7 : Row w7 H 55 [.slice a1 n c1', .string S, .slice a1 n c1'] := by rw [hw7]; exact hr8.set 2 _
      have hm7 : Mods (fun g => g = H) wr w7 := by rw [hw7]; exact hm8.trans (Mods.set _ _ _ _)
      have hb7 : Below wr.heap.size wr w7 := hm7.toBelow (fun g e => by rw [e, HH.out]; exact Nat.le_refl _) (Nat.le_refl _)
      have p2 : Put2 w w7 A Bs k i H 0 (.slice a3 i c3) R r := by
        have hH9 : w.heap.size ≤ H := by rw [HH.out]; exact hwr
        refine ⟨p.len, p.done, fun j r hj hr => p.todo j r (by omega) hr, p.says, p.row.after hb7, p.own.below hb7, ?_, p.below.trans (hb7.mono (Nat.le_trans hBs hwr)), p.lt, HR.out, HT0.out, ?_, hH9, fun h => by have := p.own.lives H h; have := HH.out; omega⟩
        · exact (p.recs.reX (fun g hg => by
            rcases hg with rfl | hg | rfl
            · exact .inl (.inl rfl)
            · exact .inl (.inr hg)
            · exact .inr (by rw [HH.out]; exact Nat.le_refl _))).below hb7
        · rw [HM0.out, HB.out, ← HN.out, ← HS.out]; exact hr7
      rw [← hw7]
      clear hw7 hr7 hm7 hb7 hr8 hm8 hlt8 c0 c1 c2 f2 p HT0 HM0 HR HS0 HB HN HS HH hn0 hlen
      go_loopw [6] (fun v6 wr => ∃ (q : Nat) (R : List Rc) (rq : Rc), q ≤ 10 ∧ v6 = .int .i64 q ∧ Put2 w wr A Bs k i H q (.slice a3 i c3) R rq) (fun v6 _ => 10 - (intOf v6).toNat)
      case atStart => exact ⟨0, R, r, by omega, rfl, p2⟩
      case round =>
        clear p2 hiR hwr
        obtain ⟨q, R, rq, hq, rfl, p⟩ := hrel
        have hwr : w.heap.size ≤ wr.heap.size := p.below.size
        by_cases hq10 : q = 10
        · subst hq10
          have hr0 := p.hrow
          have hwa : Below wr.heap.size wr (wr.alloc (.cells #[rq.b, .string (str rq.l), rq.more] 55)) := (Below.refl _ _).alloc (Nat.le_refl _) _
          have ho3 := p.own.below hwa
          have hs3 := Sl.litS wr [rq.b, .string (str rq.l), rq.more] 55 3 1 rfl (by decide)
          have h1c : ∀ u ∈ [rq.b, .string (str rq.l), rq.more], u.oneCell' = true := by
            have hd := p.recs.hd i rq p.at_
            obtain ⟨x1, x2, hx⟩ := hd.own.form
            obtain ⟨y1, y2, hy⟩ := hd.more.form
            rw [hx, hy]
            intro u hu
            simp at hu
            rcases hu with rfl | rfl | rfl <;> rfl
          have H1C := Lib.hid h1c
          clear h1c
          go_wp2_with (first | refine wpL_loadRow rfl _ _ rfl rfl hr0 Tryd.underlying55 rfl (by kernel_rfl) ?_ | (at_builtin; refine wpL_appendX2 etH rfl _ _ rfl ho3 rfl hs3 rfl H1C.out (by omega) (by simp [maxLen]; omega) (Nat.le_trans hwr hwa.size) ?_; intro v7 w7 ho7 hg7 hc7; obtain ⟨a7, c7, rfl⟩ := ho7.form; have hp1 := p.finish hBs hwa ho7 hg7 hc7; clear hg7 hc7))
          exact ⟨⟨i + 1, R, by omega, by go_num, hp1⟩, by simp [intOf]; omega⟩
        · have hq9 : q < 10 := by omega
          have hq9' : (q : Int) < 10 := by omega
          have hd := p.recs.hd i rq p.at_
          have hnn := (p.says i rq p.at_).2
          have htl : rq.t.length = q := by rw [p.t, List.length_replicate]
          obtain ⟨a5, c5, h5⟩ := hd.more.form
          have hwa : Below wr.heap.size wr (wr.alloc (.cells #[.int .u8 (i : Int)] 5)) := (Below.refl _ _).alloc (Nat.le_refl _) _
          have ho3 := hd.more.below hwa
          have hix : [Value.int .u8 (i : Int)] = bvs [UInt8.ofNat i] := by
            show _ = [Value.int .u8 ((UInt8.ofNat i).toNat : Int)]
            rw [show ((UInt8.ofNat i).toNat : Int) = (i : Int) by simp; omega]
          have hs3 : Sl (wr.alloc (.cells #[.int .u8 (i : Int)] 5)) 1 (.slice (some ⟨wr.heap.size, 0, none⟩) 1 1) 1 (bvs [UInt8.ofNat i]) := by rw [← hix]; exact Sl.one wr _ _
          have c2 := p.hrow.cell 2
          rw [h5] at c2 ho3
          have hnH : ¬ rq.more.ownBlock = some H := fun h => p.recs.off i rq H p.at_ (.inr h) (.inr (.inr rfl))
          have H5 := Lib.hid h5
          obtain ⟨N, hN⟩ : ∃ N, N = rq.n + rq.t.length := ⟨_, rfl⟩
          have hN9 : N ≤ 1048600 := by omega
          rw [← hN] at c2 ho3
          have HN := Lib.hid hN
          have C2 : Hid (wr.cell? ⟨H, 2, none⟩ = some (.slice a5 N c5)) := c2
          have c2 := C2.out
          have hBz : Bs ≤ (wr.alloc (.cells #[.int .u8 (i : Int)] 5)).heap.size := Nat.le_trans hBs (Nat.le_trans hwr hwa.size)
          clear hix htl h5 hN
          go_wp2_with (at_builtin; refine wpL_appendY etB rfl _ _ rfl ho3 rfl hs3 rfl (bvs_one _) (by omega) (by simp [maxLen]; omega) hBz ?_; intro v7 w7 ho7 hg7 hc7; obtain ⟨a7, c7, rfl⟩ := ho7.form; have hg8 : (wr.alloc (.cells #[.int .u8 (i : Int)] 5)).grownBy w7 rq.more.ownBlock := (by rw [H5.out, ← HN.out]; exact hg7); have hr7 := (p.hrow.after hwa).mods (Mods.grown hg8) hnH; have d2 := hr7.cell 2; have f2 := hr7.free 2; have hp2 := p.next hBs hwa (by rw [← HN.out]; exact ho7) hg8 (by rw [H5.out, ← HN.out]; exact hc7))
          exact ⟨⟨q + 1, _, _, by omega, by go_num, hp2⟩, by simp [intOf]; omega⟩
    subst hik
    have p3 := p.end
    clear p
    go_wp2_with fail
    refine (stand_any a3 i c3 R (-1) Bs _ wr p3.own.sl p3.recs p3.told hk8).mono ?_
    rintro e w4 ⟨rfl, hb4⟩
    have hwr : Bs ≤ wr.heap.size := Nat.le_trans hBs p3.below.size
    replace p3 := p3.after hb4 hwr
    clear hb4 hwr
    go_wp2_with fail
    go_loopw [7, 8, 9] (fun v7 v8 v9 wr => ∃ (j : Nat) (R : List Rc), j ≤ i ∧ v7 = .int .i64 j ∧ Put3 w wr Bs i (.slice a3 i c3) R (fun _ => False)) (fun v7 _ _ _ => i - (intOf v7).toNat)
    case atStart => exact ⟨0, R, Nat.zero_le _, rfl, p3⟩
    case round =>
      clear p3
      obtain ⟨j, R, hj, rfl, p⟩ := hrel
      by_cases hji : j = i
      · subst hji
        go_wp2_with fail
        go_ret
        exact ⟨rfl, p.below⟩
      · have hlt : j < i := by omega
        have hlt' : (j : Int) < i := by omega
        have hwr : w.heap.size ≤ wr.heap.size := p.below.size
        obtain ⟨g3, o3, r, he3, hr, hc0, hc1, hc2⟩ := hold_at p.own.sl j hlt
        subst he3
        obtain ⟨a1, c1, hb1⟩ := (p.recs.hd j r hr).own.form
        obtain ⟨n, hn⟩ : ∃ n, n = r.n := ⟨_, rfl⟩
        have hn9 : n ≤ 1048576 := by rw [hn]; exact (p.says j r hr).2.1
        have p1 : Put3 w wr Bs i (.slice (some ⟨g3, o3, none⟩) i c3) R (fun q => q = j) := p.weak fun _ h => h.elim
        have hfirst : ∃ r, R[j]? = some r ∧ r.n = n ∧ r.b = .slice a1 n c1 := ⟨r, hr, hn.symm, by rw [hn]; exact hb1⟩
        clear hc0 hc1 hc2 hr hb1 hn p
        go_wp2_with fail
        go_loopw [8, 9] (fun v8 v9 wr => ∃ (q : Nat) (R : List Rc) (r : Rc), q ≤ n ∧ v8 = .int .i64 q ∧ R[j]? = some r ∧ r.n = n ∧ r.b = .slice a1 n c1 ∧ Put3 w wr Bs i (.slice (some ⟨g3, o3, none⟩) i c3) R (fun q => q = j)) (fun v8 _ _ => n - (intOf v8).toNat)
        case atStart =>
          obtain ⟨r, h1, h2, h3⟩ := hfirst
          exact ⟨0, R, r, Nat.zero_le _, rfl, h1, h2, h3, p1⟩
        case round =>
          clear hfirst p1 hwr
          obtain ⟨q, R, r, hq, rfl, hr, hn, hb1, p⟩ := hrel
          have hwr : w.heap.size ≤ wr.heap.size := p.below.size
          obtain ⟨g3', o3', r', he3, hr', hc0, hc1, hc2⟩ := hold_at p.own.sl j hlt
          cases he3
          rw [hr] at hr'
          cases hr'
          rw [hb1] at hc0
          by_cases hqn : q = n
          · subst hqn
            have hsl := (p.recs.hd j r hr).own.sl
            rw [hb1, hn] at hsl
            have k1 := fun (w : World) (h : Sl w 1 (.slice a1 q c1) q (bvs r.l)) => run_conv_string w Tryd.underlying22 Tryd.underlying5 Tryd.underlying9 h
            have k2 := k1 wr hsl
            have hcap := hsl.cap
            have hq1 : q ≤ c1 := hcap.1
            have hq2 : c1 ≤ 9223372036854775807 := hcap.2.1
            have hw9 := p.own.free (j * 3 + 1) (by rw [hcells_len, p.len]; omega)
            rw [← Nat.add_assoc] at hw9
            have hP := p.say hBs hr
            rw [← Nat.add_assoc] at hP
            have HP := Lib.hid hP
            clear k1 hcap hr hn hb1 hsl hc2 hP p
            go_wp2_with fail
            refine (stand_any _ i c3 _ (j : Int) Bs _ _ HP.out.own.sl HP.out.recs HP.out.told hk8).mono ?_
            rintro e w8 ⟨rfl, hb8⟩
            have hP8 := HP.out.after hb8 (Nat.le_trans hBs HP.out.below.size)
            clear k2 hw9 hc0 hc1 HP hb8
            go_wp2_with fail
            exact ⟨⟨j + 1, _, by omega, by go_num, hP8⟩, by simp [intOf]; omega⟩
          · have hlt2 : q < n := by omega
            have hlt2' : (q : Int) < n := by omega
            have hd := p.recs.hd j r hr
            obtain ⟨y, hy⟩ : ∃ y : UInt8, y = UInt8.ofNat (255 - (r.l.getD q 0).toNat) := ⟨_, rfl⟩
            have hyx := flip_val (r.l.getD q 0)
            rw [← hy] at hyx
            obtain ⟨g, off, c, g2, off2, c2, e1, e2, s1, s2, s3, s4, f1, f2, f3, f4, hd2, hm2⟩ := hd.flip (k := q) (by omega) y
            rw [hb1, hn] at e1
            simp only [Value.slice.injEq] at e1
            obtain ⟨rfl, _, rfl⟩ := e1
            rw [e2] at hc2
            obtain ⟨N, hN⟩ : ∃ N, N = r.n + r.t.length := ⟨_, rfl⟩
            obtain ⟨X, hX⟩ : ∃ X, X = (r.l.getD q 0).toNat := ⟨_, rfl⟩
            have hg3 : g ≠ g3 := fun e => p.recs.off j r g hr (.inl (by rw [hb1]; rfl)) (by rw [e]; rfl)
            obtain ⟨Y, hY⟩ : ∃ Y, Y = y.toNat := ⟨_, rfl⟩
            obtain ⟨z, hz⟩ := Option.ne_none_iff_exists'.1 f3
            have hc2' : (wr.setCell ⟨g, off + q, none⟩ (.int .u8 (y.toNat : Int))).cell? ⟨g3, o3 + j * 3 + 2, none⟩ = some (.slice (some ⟨g2, off2, none⟩) (r.n + r.t.length) c2) := by
              rw [cell_setCell_ne (by simp; intro e; exact absurd e.symm hg3)]; exact hc2
            have hf4' : (wr.setCell ⟨g, off + q, none⟩ (.int .u8 (y.toNat : Int))).frozen? ⟨g2, off2 + q, none⟩ = false := by rw [frozen_setCell]; exact f4
            have hP := p.flip (Nat.le_trans hBs hwr) hr hd2 hm2
            have HP := Lib.hid hP
            have hq2 : (q : Int) < N := by omega
            have hn1 : n ≤ c1 := by omega
            rw [← hX] at hyx f1
            rw [← hY] at hyx hc2' hf4' hz HP
            rw [← hN] at hc2' s2
            have HR : Hid ((R.set j ⟨r.b, r.more, r.n, r.l.set q y, r.s, r.t⟩)[j]? = some ⟨r.b, r.more, r.n, r.l.set q y, r.s, r.t⟩) := by
              show _ = _
              rw [List.getElem?_set_self (List.getElem?_eq_some_iff.1 hr).1]
            have HHn := Lib.hid hn
            have HB1 := Lib.hid hb1
            clear hy hX hY f3 hc2 f4 hd hd2 hm2 hP hN e2 hg3 hr hc1 hn hb1 p
            go_wp2_with fail
            exact ⟨⟨q + 1, _, _, by omega, by go_num, HR.out, HHn.out, HB1.out, HP.out⟩, by simp [intOf]; omega⟩

/-! ### two or three answers -/
def rcOf (x : Value × Nat × List UInt8) : Rc := ⟨x.1, x.1, x.2.1, x.2.2, x.2.2, []⟩
theorem apart_list (I : List (Value × Nat × List UInt8)) (k : Nat) (hk : I.length = k) (hk8 : k ≤ 8) (Bs : Nat) (w : World) (hBs : Bs ≤ w.heap.size)
    (ho : ∀ (i : Nat) x, I[i]? = some x → Own w Bs 1 x.1 x.2.1 (bvs x.2.2) ∧ x.2.1 ≤ 1048576)
    (hd : ∀ (i j : Nat) x y (g : Nat), i ≠ j → I[i]? = some x → I[j]? = some y → x.1.ownBlock = some g → y.1.ownBlock ≠ some g) :
    Calls Tryd.prog 15 #[.slice (some ⟨w.heap.size, 0, none⟩) k k] (w.alloc (.cells (I.map (·.1)).toArray 22)) fun e w' => e = .returned (.bool true) ∧ Below Bs w w' := by
  have hb : Below w.heap.size w (w.alloc (.cells (I.map (·.1)).toArray 22)) := (Below.refl _ _).alloc (Nat.le_refl _) _
  have hget : ∀ (i : Nat) (r : Rc), (I.map rcOf)[i]? = some r → ∃ x, I[i]? = some x ∧ r = rcOf x := by
    intro i r h
    rw [List.getElem?_map] at h
    obtain ⟨x, h1, h2⟩ := Option.map_eq_some_iff.1 h
    exact ⟨x, h1, h2.symm⟩
  have hblk : ∀ x g, (rcOf x).blk g → x.1.ownBlock = some g := fun x g h => by rcases h with h | h <;> exact h
  have hp : Put1 (w.alloc (.cells (I.map (·.1)).toArray 22)) (w.alloc (.cells (I.map (·.1)).toArray 22)) w.heap.size Bs k 0 (.slice none 0 0) (I.map rcOf) := by
    refine ⟨by rw [List.length_map]; exact hk, fun j r hj => by omega, fun j r _ hr => ?_, fun j r hr => ?_, ?_, ?_, ⟨fun i r hr => ?_, fun i j r s g hij hr hs h1 h2 => ?_, fun i r g hr h1 h2 => ?_⟩, Below.refl _ _, by simp⟩
    · obtain ⟨x, h1, rfl⟩ := hget j r hr
      exact ⟨rfl, rfl⟩
    · obtain ⟨x, h1, rfl⟩ := hget j r hr
      exact ⟨rfl, (ho j x h1).2⟩
    · rw [List.map_map]
      exact Row.new w (I.map (·.1)) 22
    · rw [List.take_zero]
      exact Own.nil _ _ _
    · obtain ⟨x, h1, rfl⟩ := hget i r hr
      exact Hd.start ((ho i x h1).1.below hb)
    · obtain ⟨x, k1, rfl⟩ := hget i r hr
      obtain ⟨y, k2, rfl⟩ := hget j s hs
      exact hd i j x y g hij k1 k2 (hblk x g h1) (hblk y g h2)
    · obtain ⟨x, k1, rfl⟩ := hget i r hr
      rcases h2 with rfl | h2
      · have := (ho i x k1).1.lives _ (hblk x _ h1)
        omega
      · simp [Value.ownBlock] at h2
  exact (apart_any w.heap.size k (I.map rcOf) Bs _ (Nat.le_trans hBs hb.size) hk8 hp).mono fun e w' ⟨he, hw⟩ => ⟨he, (hb.mono hBs).trans hw⟩
theorem apart2 (b0 b1 : Value) (n0 n1 : Nat) (l0 l1 : List UInt8) (Bs : Nat) (w : World) (hBs : Bs ≤ w.heap.size) (o0 : Own w Bs 1 b0 n0 (bvs l0)) (o1 : Own w Bs 1 b1 n1 (bvs l1)) (h0 : n0 ≤ 1048576) (h1 : n1 ≤ 1048576)
    (hd : ∀ g, b0.ownBlock = some g → b1.ownBlock ≠ some g) :
    Calls Tryd.prog 15 #[.slice (some ⟨w.heap.size, 0, none⟩) 2 2] (w.alloc (.cells #[b0, b1] 22)) fun e w' => e = .returned (.bool true) ∧ Below Bs w w' := by
  refine apart_list [(b0, n0, l0), (b1, n1, l1)] 2 rfl (by omega) Bs w hBs (fun i x hx => ?_) (fun i j x y g hij hx hy h2 h3 => ?_)
  · match i, hx with
    | 0, hx => cases hx; exact ⟨o0, h0⟩
    | 1, hx => cases hx; exact ⟨o1, h1⟩
    | n + 2, hx => simp at hx
  · match i, hx, j, hy with
    | 0, hx, 0, hy => exact hij rfl
    | 0, hx, 1, hy => cases hx; cases hy; exact hd g h2 h3
    | 1, hx, 0, hy => cases hx; cases hy; exact hd g h3 h2
    | 1, hx, 1, hy => exact hij rfl
    | n + 2, hx, _, _ => simp at hx
    | 0, _, n + 2, hy => simp at hy
    | 1, _, n + 2, hy => simp at hy
theorem apart3 (b0 b1 b2 : Value) (n0 n1 n2 : Nat) (l0 l1 l2 : List UInt8) (Bs : Nat) (w : World) (hBs : Bs ≤ w.heap.size) (o0 : Own w Bs 1 b0 n0 (bvs l0)) (o1 : Own w Bs 1 b1 n1 (bvs l1)) (o2 : Own w Bs 1 b2 n2 (bvs l2)) (h0 : n0 ≤ 1048576) (h1 : n1 ≤ 1048576) (h2 : n2 ≤ 1048576)
    (hd : ∀ g, b0.ownBlock = some g → b1.ownBlock ≠ some g) (hd2 : ∀ g, b0.ownBlock = some g → b2.ownBlock ≠ some g) (hd3 : ∀ g, b1.ownBlock = some g → b2.ownBlock ≠ some g) :
    Calls Tryd.prog 15 #[.slice (some ⟨w.heap.size, 0, none⟩) 3 3] (w.alloc (.cells #[b0, b1, b2] 22)) fun e w' => e = .returned (.bool true) ∧ Below Bs w w' := by
  refine apart_list [(b0, n0, l0), (b1, n1, l1), (b2, n2, l2)] 3 rfl (by omega) Bs w hBs (fun i x hx => ?_) (fun i j x y g hij hx hy h2 h3 => ?_)
  · match i, hx with
    | 0, hx => cases hx; exact ⟨o0, h0⟩
    | 1, hx => cases hx; exact ⟨o1, h1⟩
    | 2, hx => cases hx; exact ⟨o2, h2⟩
    | n + 3, hx => simp at hx
  · match i, hx, j, hy with
    | 0, hx, 0, hy => exact hij rfl
    | 0, hx, 1, hy => cases hx; cases hy; exact hd g h2 h3
    | 0, hx, 2, hy => cases hx; cases hy; exact hd2 g h2 h3
    | 1, hx, 0, hy => cases hx; cases hy; exact hd g h3 h2
    | 1, hx, 1, hy => exact hij rfl
    | 1, hx, 2, hy => cases hx; cases hy; exact hd3 g h2 h3
    | 2, hx, 0, hy => cases hx; cases hy; exact hd2 g h3 h2
    | 2, hx, 1, hy => cases hx; cases hy; exact hd3 g h3 h2
    | 2, hx, 2, hy => exact hij rfl
    | n + 3, hx, _, _ => simp at hx
    | 0, _, n + 3, hy => simp at hy
    | 1, _, n + 3, hy => simp at hy
    | 2, _, n + 3, hy => simp at hy
end Go.Proofs.YtobagfndagjajaaDoor
