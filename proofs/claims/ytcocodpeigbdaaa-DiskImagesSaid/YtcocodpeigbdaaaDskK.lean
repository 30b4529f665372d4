/-
  Copy of a disk, the program's and the document's. Conditions: the disk reads as one.
-/
import Derived.Test.YtcocodpeigbdaaaDskI
namespace Go.Proofs.Ytcocodpeigbdaaa
open Go.RowKit
set_option linter.unusedVariables false
set_option linter.unusedSimpArgs false

set_option maxHeartbeats 400000 in
theorem cloneW_any (a : Option Addr) (n c : Nat) (l : List Value) (w : World) (hl : Sl w 2 (.slice a n c) n l) (h1 : ∀ u ∈ l, u.oneCell' = true) (hsz : n ≤ 1073741824) :
    Calls Try.prog 55 #[.slice a n c] w fun e w' => ∃ v, e = .returned v ∧ Own w' w.heap.size 2 v n l ∧ Below w.heap.size w w' := by
  have HL := Lib.hid hl
  have hn := hl.cap
  have H1 := Lib.hid h1
  have hnil := fun w => Lib.run_eql_slice_nil (P := Try.prog) w 72 77 a n c 0 0 Try.underlying72
  clear hl h1
  cases a with
  | none =>
    have hz : n = 0 := by
      have h := HL.out
      obtain ⟨_, a', c', he, h1, h2, h3, h4⟩ := h
      cases he
      have := h3 rfl
      omega
    subst hz
    go_enter Try.func55, Try.ntmps55
    go_wp2
    go_ret
    refine ⟨_, rfl, ?_, Below.refl _ _⟩
    obtain rfl : l = [] := List.eq_nil_of_length_eq_zero (by omega)
    exact Own.nil _ _ _
  | some a =>
    go_enter Try.func55, Try.ntmps55
    go_wp2_with (at_builtin; refine wpL_append0 etW rfl _ _ rfl w.heap.size rfl HL.out rfl H1.out (by omega) (by simp [maxLen]; omega) (Nat.le_refl _) ?_; intro v2 w2 hown2 hb2)
    go_ret
    exact ⟨_, rfl, hown2, hb2⟩
theorem madeNewP {e : TypeId} {c : Nat} {col : Nat → Nat} {w w' : World} {b : Nat} {S : List (List UInt8)} {P : Pend} {dead : Bool} {armed steps : Int} {aS : Option Addr} {n cS : Nat} {us : List Value} {aP : Option Addr} {m cP : Nat} {pv : List Value} (hb : Below w.heap.size w w') (hc : c ≠ 0) (hn : n = S.length) (hm : m = P.length)
    (hr : Row w' b e [.slice aS n cS, .slice aP m cP, .bool dead, .int .i64 armed, .int .i64 steps]) (hbb : w.heap.size ≤ b) (hi : Imgs w' w.heap.size (.slice aS n cS) n us S) (hsb : (Value.slice aS n cS).ownBlock ≠ some b) (hub : ∀ u ∈ us, u.ownBlock ≠ some b)
    (ho : Own w' w.heap.size 2 (.slice aP m cP) m pv) (hpb : (Value.slice aP m cP).ownBlock ≠ some b) (hsp : ∀ g, (Value.slice aS n cS).ownBlock = some g → (Value.slice aP m cP).ownBlock ≠ some g) (hup : ∀ u ∈ us, ∀ g, u.ownBlock = some g → (Value.slice aP m cP).ownBlock ≠ some g)
    (hp : Pens (newcol col w.heap.size c b (.slice aS n cS) (.slice aP m cP)) w' pv P) :
    MadeNew e c col w b ⟨S, P, dead, armed, steps⟩ w' := by
  subst hn
  subst hm
  refine ⟨newcol col w.heap.size c b (.slice aS S.length cS) (.slice aP P.length cP), ⟨Mods.fresh hb _, fun g hg => newcol_lt hg⟩, aS, cS, aP, cP, us, pv, hr, hc, newcol_yes hbb (.inl rfl), ⟨hi.own.mono (Nat.zero_le _), fun g hg => newcol_yes (hi.own.lt g hg) (.inr (.inl hg))⟩, hi.ins.imms fun u hu g hg => ?_, ⟨ho.mono (Nat.zero_le _), fun g hg => newcol_yes (ho.lt g hg) (.inr (.inr hg))⟩, hp, hsb, hpb, hsp⟩
  refine newcol_no (hi.ins.lives u hu g hg).1 ?_
  rintro (h1 | h1 | h1)
  · exact hub u hu (by rw [hg, h1])
  · exact hi.sep u hu g hg h1
  · exact hup u hu g hg h1
set_option maxHeartbeats 1000000 in
theorem copy_p (c : Nat) (col : Nat → Nat) (b : Nat) (D : Dk) (k c2 : Nat) (w : World) (h : DkAt 74 c col w b D) (hF : D.Fits k) (hk : k < 1073741823) (hc2 : c2 ≠ 0) :
    Calls Try.prog 31 #[.pointer (some ⟨b, 0, none⟩)] w fun e w' => ∃ q, e = .returned (.pointer (some ⟨q, 0, none⟩)) ∧ MadeNew 74 c2 col w q D w' := by
  obtain ⟨aS, cS, aP, cP, sv, pv, h⟩ := h
  obtain ⟨S, P, dead, armed, steps⟩ := D
  have hsec := hF.sec
  have hpen := hF.pen
  simp only at hpen hsec
  have HLe : Hid (∀ l ∈ S, l.length ≤ 1048576) := Lib.hid (fun l hl => by have := hF.fit.sl l hl; omega)
  have hr := h.row
  simp only at hr
  have HR := Lib.hid hr
  have H := Lib.hid h
  clear h
  have hb1 : Below w.heap.size w (w.alloc (.cells #[.slice aS S.length cS, .slice aP P.length cP, .bool dead, .int .i64 armed, .int .i64 steps] 74)) := (Below.refl _ _).alloc (Nat.le_refl _) _
  have hrow1 : Row (w.alloc (.cells #[.slice aS S.length cS, .slice aP P.length cP, .bool dead, .int .i64 armed, .int .i64 steps] 74)) w.heap.size 74 [.slice aS S.length cS, .slice aP P.length cP, .bool dead, .int .i64 armed, .int .i64 steps] := Row.new _ _ _
  have HB1 := Lib.hid hb1
  have HROW := Lib.hid hrow1
  clear hb1 hrow1
  go_enter Try.func31, Try.ntmps31
  go_wp2_with (refine wpL_loadRow rfl _ _ rfl rfl hr Try.underlying74 rfl (by kernel_rfl) ?_)
  generalize (w.alloc (.cells #[.slice aS S.length cS, .slice aP P.length cP, .bool dead, .int .i64 armed, .int .i64 steps] 74)) = w1 at HB1 HROW ⊢
  have hblt := HR.out.lt
  have q0 := laterL_cell (B := w.heap.size) (((HR.out.after HB1.out).cell 0 : w1.cell? ⟨b, 0, none⟩ = some (.slice aS S.length cS))) hblt
  have q1 := laterL_cell (B := w.heap.size) (((HR.out.after HB1.out).cell 1 : w1.cell? ⟨b, 1, none⟩ = some (.slice aP P.length cP))) hblt
  have hsz := HB1.out.size
  clear hr
  refine wp_region_idx (RbL w.heap.size) (RbL_refl _) (RbL_trans _) [(0,0),(0,1),(0,2),(0,3),(0,5),(0,6),(0,7),(0,8),(1,4),(1,9),(0,10),(1,11),(0,12),(2,13)] (by kernel_rfl) (by kernel_rfl) (by kernel_rfl) ?_
  simp only [pickO, List.getD_cons_succ, List.getD_cons_zero]
  refine wpCan_seg 8 (by kernel_rfl) ?_
  simp only [List.take_succ_cons, List.take_zero, List.drop_succ_cons, List.drop_zero, List.map_cons, List.map_nil]
  iterate 8 (go_big_quiet_step (fail))
  refine wpQuiet_nil ?_
  clear q0 q1
  have HIR : Hid (ImR w1.drew (.slice aS S.length cS) S) := Lib.hid (H.out.imr.below HB1.out.drew)
  refine wpCan_list (k := 0) (fun KK hK => ?_) (fun _ => RbL_refl _ _)
  go_wp2_with fail
  refine (clones_any aS S.length cS S _ HIR.out hsec HLe.out).mono ?_
  rintro e w2 ⟨v2, us, rfl, hi2, hb2⟩
  obtain ⟨a2, c2', rfl⟩ := hi2.own.form
  have HI2 := Lib.hid hi2
  have HB2 := Lib.hid hb2
  go_wp2_with fail
  refine hK _ _ (fun _ => hb2.mono hsz) ?_
  clear hK KK hi2
  have hB2 : Below w.heap.size w w2 := HB1.out.drew.trans (hb2.mono hsz)
  have HSP : Hid (Sl w2 2 (.slice aP P.length cP) P.length pv) := Lib.hid (H.out.po.1.sl.below hB2)
  refine wpCan_list (k := 0) (fun KK hK => ?_) (fun _ => RbL_refl _ _)
  go_wp2_with fail
  refine (cloneW_any aP P.length cP pv w2 HSP.out H.out.pi.one1 (by omega)).mono ?_
  rintro e w3 ⟨v3, rfl, ho3, hb3⟩
  obtain ⟨a3, c3', rfl⟩ := ho3.form
  have HO3 := Lib.hid ho3
  have HB3 := Lib.hid hb3
  have hsz2 := hB2.size
  go_wp2_with fail
  refine hK _ _ (fun _ => hb3.mono hsz2) ?_
  clear hK KK ho3
  have hB3 := hB2.trans (hb3.mono hsz2)
  have hbw : w.heap.size < w1.heap.size := HROW.out.lt
  have hr3 : Row w3 w.heap.size 74 [.slice aS S.length cS, .slice aP P.length cP, .bool dead, .int .i64 armed, .int .i64 steps] := HROW.out.after ((Below.refl w1.heap.size w1).drew.trans (hb2.trans (hb3.mono hb2.size)))
  have hsz3 := hB3.size
  refine wpCan_seg 1 (by kernel_rfl) ?_
  simp only [List.take_succ_cons, List.take_zero, List.drop_succ_cons, List.drop_zero, List.map_cons, List.map_nil]
  iterate 1 (go_big_quiet_step (fail))
  refine wpQuiet_nil ?_
  refine wpCan_list (k := 0) (fun KK hK => ?_) (fun _ => RbL_refl _ _)
  go_wp2_with (refine wpL_storeAt rfl _ _ _ rfl rfl rfl rfl rfl (by kernel_rfl) hr3 rfl ?_; intro w4 hg4 hr4)
  refine hK _ _ (fun _ => below_grown (Below.refl _ _) hg4 (Nat.le_refl _) hsz3) ?_
  clear hK KK
  refine wpCan_seg 1 (by kernel_rfl) ?_
  simp only [List.take_succ_cons, List.take_zero, List.drop_succ_cons, List.drop_zero, List.map_cons, List.map_nil]
  iterate 1 (go_big_quiet_step (fail))
  refine wpQuiet_nil ?_
  refine wpCan_list (k := 1) (fun KK hK => ?_) (fun h => by cases h)
  go_wp2_with (refine wpL_storeAt rfl _ _ _ rfl rfl rfl rfl rfl (by kernel_rfl) hr4 rfl ?_; intro w5 hg5 hr5)
  refine hK _ _ (fun h => by cases h) ?_
  clear hK KK
  unfold wpCan
  go_wp2_with fail
  go_ret
  have hi3 := HI2.out.below HB3.out
  have hw1 : w1.heap.size ≤ w2.heap.size := HB2.out.size
  have hlt1 : ∀ g, (Value.slice a2 S.length c2').ownBlock = some g → w1.heap.size ≤ g ∧ g < w2.heap.size := fun g hg => ⟨HI2.out.own.lt g hg, HI2.out.own.lives g hg⟩
  have hlt2 : ∀ u ∈ us, ∀ g, u.ownBlock = some g → w1.heap.size ≤ g ∧ g < w2.heap.size := fun u hu g hg => HI2.out.ins.lives u hu g hg
  have hlt3 : ∀ g, (Value.slice a3 P.length c3').ownBlock = some g → w2.heap.size ≤ g := fun g hg => HO3.out.lt g hg
  have kept : ∀ {A B : World}, A.grownBy B (some w.heap.size) → Imgs A w1.heap.size (.slice a2 S.length c2') S.length us S → Imgs B w1.heap.size (.slice a2 S.length c2') S.length us S := fun hg h =>
    ⟨h.own.kept hg (by
      cases hq : (Value.slice a2 S.length c2').ownBlock with
      | none => exact .inl rfl
      | some g => exact .inr (fun e => by have := (hlt1 g hq).1; cases e; omega)), h.ins.kept hg (fun u hu g hg e => by have := (hlt2 u hu g hg).1; cases e; omega), h.sep⟩
  have kepo : ∀ {A B : World}, A.grownBy B (some w.heap.size) → Own A w2.heap.size 2 (.slice a3 P.length c3') P.length pv → Own B w2.heap.size 2 (.slice a3 P.length c3') P.length pv := fun hg h =>
    h.kept hg (by
      cases hq : (Value.slice a3 P.length c3').ownBlock with
      | none => exact .inl rfl
      | some g => exact .inr (fun e => by have := hlt3 g hq; cases e; omega))
  have hi5 := kept hg5 (kept hg4 hi3)
  have ho5 := kepo hg5 (kepo hg4 HO3.out)
  have hb5 : Below w.heap.size w w5 := below_grown (below_grown hB3 hg4 (Nat.le_refl _) hsz3) hg5 (Nat.le_refl _) (Nat.le_trans hsz3 hg4.size)
  refine ⟨w.heap.size, rfl, madeNewP hb5 hc2 rfl rfl hr5 (Nat.le_refl _) (hi5.mono hsz) (fun e => by have := (hlt1 _ e).1; omega) (fun u hu e => by have := (hlt2 u hu _ e).1; omega) (ho5.mono hsz2) (fun e => by have := hlt3 _ e; omega) (fun g h1 h2 => by have := hlt1 g h1; have := hlt3 g h2; omega) (fun u hu g h1 h2 => by have := hlt2 u hu g h1; have := hlt3 g h2; omega) (H.out.pi.st (C := fun _ => False) ⟨Mods.fresh hb5 _, fun g hg => newcol_lt hg⟩ (fun h => h))⟩

inductive POwns (w : World) (base : Nat) : List Value → Pend → Prop where
  | nil : POwns w base [] []
  | cons {v : Value} {p : Nat × List UInt8} {vs : List Value} {L : Pend} : Own w base 1 v p.2.length (bvs p.2) → POwns w base vs L → POwns w base (.int .i64 (p.1 : Int) :: v :: vs) (p :: L)
theorem POwns.stay {w w' : World} {base : Nat} {vs : List Value} {L : Pend} (h : POwns w base vs L) (hb : Below w.heap.size w w') : POwns w' base vs L := by
  induction h with
  | nil => exact .nil
  | cons h1 _ ih => exact .cons (h1.below hb) ih
theorem POwns.kept {w w' : World} {base : Nat} {vs : List Value} {L : Pend} (h : POwns w base vs L) {row : Option Nat} (hg : w.grownBy w' row) (hne : ∀ u ∈ vs, ∀ g, u.ownBlock = some g → row ≠ some g) : POwns w' base vs L := by
  induction h with
  | nil => exact .nil
  | @cons v p vs L h1 _ ih =>
    refine .cons (h1.kept hg ?_) (ih fun u hu => hne u (List.mem_cons_of_mem _ (List.mem_cons_of_mem _ hu)))
    cases hq : v.ownBlock with
    | none => exact .inl rfl
    | some g => exact .inr (fun e => hne v (List.mem_cons_of_mem _ (List.mem_cons_self ..)) g hq e.symm)
theorem POwns.lives {w : World} {base : Nat} {vs : List Value} {L : Pend} (h : POwns w base vs L) : ∀ u ∈ vs, ∀ g, u.ownBlock = some g → base ≤ g ∧ g < w.heap.size := by
  induction h with
  | nil => intro u hu; cases hu
  | cons h1 _ ih =>
    intro u hu
    rcases List.mem_cons.1 hu with rfl | hu
    · intro g hg; cases hg
    rcases List.mem_cons.1 hu with rfl | hu
    · exact fun g hg => ⟨h1.lt g hg, h1.lives g hg⟩
    · exact ih u hu
theorem POwns.app {w : World} {base : Nat} {vs us : List Value} {L M : Pend} (h : POwns w base vs L) (k : POwns w base us M) : POwns w base (vs ++ us) (L ++ M) := by
  induction h with
  | nil => exact k
  | cons h1 _ ih => exact .cons h1 ih
theorem POwns.pens {col : Nat → Nat} {w : World} {base : Nat} {vs : List Value} {L : Pend} (h : POwns w base vs L) (hc : ∀ u ∈ vs, ∀ g, u.ownBlock = some g → col g = 0) : Pens col w vs L := by
  induction h with
  | nil => exact .nil
  | @cons v p vs L h1 _ ih => exact .cons ⟨h1.sl, fun _ g hg => hc v (List.mem_cons_of_mem _ (List.mem_cons_self ..)) g hg⟩ (ih fun u hu => hc u (List.mem_cons_of_mem _ (List.mem_cons_of_mem _ hu)))
/-- pending writes in new memory -/
structure PImgs (w : World) (base : Nat) (v : Value) (n : Nat) (us : List Value) (L : Pend) : Prop where
  own : Own w base 2 v n us
  ins : POwns w base us L
  sep : ∀ u ∈ us, ∀ g, u.ownBlock = some g → v.ownBlock ≠ some g
theorem PImgs.below {w w' : World} {base n : Nat} {v : Value} {us : List Value} {L : Pend} (h : PImgs w base v n us L) (hb : Below w.heap.size w w') : PImgs w' base v n us L := ⟨h.own.below hb, h.ins.stay hb, h.sep⟩
theorem PImgs.push {w w' : World} {base n : Nat} {v v' u : Value} {us : List Value} {L : Pend} {p : Nat × List UInt8} (h : PImgs w base v n us L) (hu : Own w base 1 u p.2.length (bvs p.2)) (hs : ∀ g, u.ownBlock = some g → v.ownBlock ≠ some g)
    (ho : Own w' base 2 v' (n + 1) (us ++ [.int .i64 (p.1 : Int), u])) (hg : w.grownBy w' v.ownBlock) (hor : (∃ g off cap, v = .slice (some ⟨g, off, none⟩) n cap ∧ v' = .slice (some ⟨g, off, none⟩) (n + 1) cap) ∨ ((∀ g, v'.ownBlock = some g → w.heap.size ≤ g) ∧ w.grownBy w' none)) :
    PImgs w' base v' (n + 1) (us ++ [.int .i64 (p.1 : Int), u]) (L ++ [p]) := by
  have hv : ∀ g, v'.ownBlock = some g → v.ownBlock = some g ∨ w.heap.size ≤ g := by
    intro g hgv
    rcases hor with ⟨g', off, cap, e1, e2⟩ | ⟨h1, _⟩
    · left
      rw [e1]; subst e2
      simp [Value.ownBlock] at hgv ⊢
      exact hgv
    · exact .inr (h1 g hgv)
  have hall : POwns w base (us ++ [.int .i64 (p.1 : Int), u]) (L ++ [p]) := h.ins.app (.cons hu .nil)
  have hsep : ∀ x ∈ us ++ [.int .i64 (p.1 : Int), u], ∀ g, x.ownBlock = some g → v.ownBlock ≠ some g := by
    intro x hx
    rcases List.mem_append.1 hx with h1 | h1
    · exact h.sep x h1
    · rcases List.mem_cons.1 h1 with rfl | h1
      · intro g hg; cases hg
      · rw [List.mem_singleton.1 h1]; exact hs
  refine ⟨ho, hall.kept hg hsep, fun x hx g hgx e => ?_⟩
  rcases hv g e with h1 | h1
  · exact hsep x hx g hgx h1
  · have := (hall.lives x hx g hgx).2; omega
theorem take_pen {P : Pend} {i : Nat} (hi : i < P.length) : P.take (i + 1) = P.take i ++ [penAt P i] := by
  rw [List.take_succ_eq_append_getElem hi]
  simp [penAt, List.getD_eq_getElem?_getD, List.getElem?_eq_getElem hi]
set_option maxHeartbeats 2000000 in
theorem rcopy_p (c : Nat) (col : Nat → Nat) (b : Nat) (D : Dk) (k c2 : Nat) (w : World) (h : DkAt 59 c col w b D) (hF : D.Fits k) (hk : k < 1073741823) (hc2 : c2 ≠ 0) :
    Calls Try.prog 36 #[.pointer (some ⟨b, 0, none⟩)] w fun e w' => ∃ q, e = .returned (.pointer (some ⟨q, 0, none⟩)) ∧ MadeNew 59 c2 col w q D w' := by
  obtain ⟨aS, cS, aP, cP, sv, pv, h⟩ := h
  obtain ⟨S, P, dead, armed, steps⟩ := D
  have hsec := hF.sec
  have hpen := hF.pen
  simp only at hpen hsec
  have hr := h.row
  simp only at hr
  have HR := Lib.hid hr
  have H := Lib.hid h
  have q0 := later_cell (hr.cell 0 : w.cell? ⟨b, 0, none⟩ = some (.slice aS S.length cS))
  have q2 := later_cell (hr.cell 2 : w.cell? ⟨b, 2, none⟩ = some (.bool dead))
  have q3 := later_cell (hr.cell 3 : w.cell? ⟨b, 3, none⟩ = some (.int .i64 armed))
  have q4 := later_cell (hr.cell 4 : w.cell? ⟨b, 4, none⟩ = some (.int .i64 steps))
  clear h hr
  go_enter Try.func36, Try.ntmps36
  go_wp2_with fail
  refine wp_region_idx Rb Rb_refl Rb_trans [(0,0),(0,1),(0,2),(0,3),(0,5),(0,6),(0,7),(0,8),(0,9),(0,10),(0,11),(0,12),(0,13),(0,14),(0,15),(0,16),(1,4),(0,17),(1,18),(0,19)] (by kernel_rfl) (by kernel_rfl) (by kernel_rfl) ?_
  simp only [pickO, List.getD_cons_succ, List.getD_cons_zero]
  refine wpCan_seg 16 (by kernel_rfl) ?_
  simp only [List.take_succ_cons, List.take_zero, List.drop_succ_cons, List.drop_zero, List.map_cons, List.map_nil]
  iterate 16 (go_big_quiet_step (fail))
  refine wpQuiet_nil ?_
  clear q0 q2 q3 q4
  have HIR : Hid (ImR w.drew (.slice aS S.length cS) S) := Lib.hid (H.out.imr.below (Below.refl _ _).drew)
  refine wpCan_list (k := 0) (fun KK hK => ?_) (fun _ => Rb_refl _)
  go_wp2_with fail
  refine (copyImage_any aS S.length cS S _ HIR.out hsec).mono ?_
  rintro e w1 ⟨v2, us, rfl, hi2, hb2⟩
  obtain ⟨a2, c2', rfl⟩ := hi2.own.form
  have HI1 : Hid (Imgs w1 w.heap.size (.slice a2 S.length c2') S.length us S) := Lib.hid hi2
  have hB1 : Below w.heap.size w w1 := (Below.refl w.heap.size w).drew.trans hb2
  go_wp2_with fail
  refine hK _ _ (fun _ => hb2) ?_
  clear hK KK hi2 hb2
  refine wpCan_seg 1 (by kernel_rfl) ?_
  simp only [List.take_succ_cons, List.take_zero, List.drop_succ_cons, List.drop_zero, List.map_cons, List.map_nil]
  iterate 1 (go_big_quiet_step (fail))
  refine wpQuiet_nil ?_
  have hb3 : Below w1.heap.size w1 (w1.alloc (.cells #[.slice a2 S.length c2', .slice none 0 0, .bool dead, .int .i64 armed, .int .i64 steps] 59)) := (Below.refl _ _).alloc (Nat.le_refl _) _
  have hr3 : Row (w1.alloc (.cells #[.slice a2 S.length c2', .slice none 0 0, .bool dead, .int .i64 armed, .int .i64 steps] 59)) w1.heap.size 59 [.slice a2 S.length c2', .slice none 0 0, .bool dead, .int .i64 armed, .int .i64 steps] := Row.new _ _ _
  have HB3 := Lib.hid hb3
  have HR3 := Lib.hid hr3
  clear hr3 hb3
  refine wpCan_list (k := 0) (fun KK hK => ?_) (fun _ => Rb_refl _)
  go_wp2_with fail
  refine hK _ _ (fun _ => HB3.out) ?_
  clear hK KK
  refine wpCan_seg 1 (by kernel_rfl) ?_
  simp only [List.take_succ_cons, List.take_zero, List.drop_succ_cons, List.drop_zero, List.map_cons, List.map_nil]
  iterate 1 (go_big_quiet_step (fail))
  refine wpQuiet_nil ?_
  unfold wpCan
  generalize (w1.alloc (.cells #[.slice a2 S.length c2', .slice none 0 0, .bool dead, .int .i64 armed, .int .i64 steps] 59)) = w3 at HB3 HR3 ⊢
  obtain ⟨b1, hb1e⟩ : ∃ b1, b1 = w1.heap.size := ⟨_, rfl⟩
  rw [← hb1e] at HB3 HR3 ⊢
  have hlt1 : ∀ g, (Value.slice a2 S.length c2').ownBlock = some g → w.heap.size ≤ g ∧ g < b1 := fun g hg => ⟨HI1.out.own.lt g hg, by rw [hb1e]; exact HI1.out.own.lives g hg⟩
  have hlt2 : ∀ u ∈ us, ∀ g, u.ownBlock = some g → w.heap.size ≤ g ∧ g < b1 := fun u hu g hg => by rw [hb1e]; exact HI1.out.ins.lives u hu g hg
  have hwb : w.heap.size ≤ b1 := by rw [hb1e]; exact hB1.size
  have HL1 := Lib.hid hlt1
  have HL2 := Lib.hid hlt2
  have HE1 := Lib.hid hb1e
  clear hlt1 hlt2 hb1e
  go_wp2_with fail
  go_loopw [4] (fun v4 wr => ∃ i qv aQ cQ, i ≤ P.length ∧ v4 = .int .i64 (i : Nat) ∧ Hid (Row wr b1 59 [.slice a2 S.length c2', .slice aQ i cQ, .bool dead, .int .i64 armed, .int .i64 steps]) ∧ Hid (PImgs wr (b1 + 1) (.slice aQ i cQ) i qv (P.take i)) ∧ Below b1 w1 wr) (fun v4 _ => P.length - (intOf v4).toNat)
  case atStart => exact ⟨0, [], none, 0, Nat.zero_le _, rfl, HR3, Lib.hid ⟨Own.nil _ _ _, by rw [List.take_zero]; exact .nil, fun u hu => by cases hu⟩, HB3.out⟩
  case round =>
    obtain ⟨i, qv, aQ, cQ, hi, rfl, HRr, HQ, hb⟩ := hrel
    have hBr : Below w.heap.size w wr := hB1.trans (hb.mono hwb)
    have f1 : wr.cell? ⟨b, 1, none⟩ = some (.slice aP P.length cP) := (HR.out.after hBr).cell 1
    by_cases hiP : i = P.length
    · subst hiP
      go_wp2_with fail
      go_ret
      have hQ : PImgs wr (b1 + 1) (.slice aQ P.length cQ) P.length qv P := by have := HQ.out; rwa [List.take_of_length_le (Nat.le_refl _)] at this
      have hI : Imgs wr w.heap.size (.slice a2 S.length c2') S.length us S := HI1.out.below (by rw [← HE1.out]; exact hb)
      refine ⟨b1, rfl, madeNewP hBr hc2 rfl rfl HRr.out hwb hI (fun e => by have := (HL1.out _ e).2; omega) (fun u hu e => by have := (HL2.out u hu _ e).2; omega) (hQ.own.mono (by omega)) (fun e => by have := hQ.own.lt _ e; omega) (fun g h1 h2 => by have := (HL1.out g h1).2; have := hQ.own.lt g h2; omega) (fun u hu g h1 h2 => by have := (HL2.out u hu g h1).2; have := hQ.own.lt g h2; omega) (hQ.ins.pens fun u hu g hg => newcol_no (by have := (hQ.ins.lives u hu g hg).1; omega) ?_)⟩
      rintro (h1 | h1 | h1)
      · have := (hQ.ins.lives u hu g hg).1; omega
      · have := (hQ.ins.lives u hu g hg).1; have := (HL1.out g h1).2; omega
      · exact hQ.sep u hu g hg h1
    · have hlt : i < P.length := by omega
      have hlt' : (i : Int) < P.length := by omega
      have hPd := (H.out.st (St.fresh hBr (fun _ => False) col) (fun h => h) (fun h => h)).pAt i hlt
      simp only at hPd
      obtain ⟨g2, off2, av2, cv2, haP, hp0, hp1, hpm⟩ := hPd
      subst haP
      have HTP := Lib.hid (take_pen hlt)
      obtain ⟨x, l, hxl⟩ : ∃ x l, penAt P i = (x, l) := ⟨_, _, rfl⟩
      rw [hxl] at hp0 hp1 hpm HTP
      simp only at hp0 hp1 hpm
      have HPM := Lib.hid hpm
      have hblt : b < b1 := Nat.lt_of_lt_of_le HR.out.lt hwb
      have hb1lt := HRr.out.lt
      have hg2 : g2 < w.heap.size := by
        have := H.out.po.1.sl.ownLt (by have := H.out.pi.len; intro e; rw [e] at this; simp at this; omega) (g := g2) rfl
        exact this
      have q0 := laterL_cell (B := b1 + 1) (HRr.out.cell 1 : wr.cell? ⟨b1, 1, none⟩ = some (.slice aQ i cQ)) (by omega)
      have q1 := laterL_cell (B := b1 + 1) f1 (by omega)
      have q2 := laterL_cell (B := b1 + 1) hp0 (by omega)
      have q3 := laterL_cell (B := b1 + 1) hp1 (by omega)
      clear hp0 hp1 hpm hxl
      go_wp2_with fail
      refine wp_region_idx (RbL (b1 + 1)) (RbL_refl _) (RbL_trans _) [(0,0),(0,1),(0,2),(0,3),(0,4),(0,5),(0,6),(0,7),(0,8),(0,9),(0,10),(0,11),(0,12),(0,13),(0,14),(0,15),(0,16),(0,17),(0,18),(0,19),(0,20),(1,21),(0,22),(1,23),(1,24),(0,25),(0,26),(2,27)] (by kernel_rfl) (by kernel_rfl) (by kernel_rfl) ?_
      simp only [pickO, List.getD_cons_succ, List.getD_cons_zero]
      refine wpCan_seg 21 (by kernel_rfl) ?_
      simp only [List.take_succ_cons, List.take_zero, List.drop_succ_cons, List.drop_zero, List.map_cons, List.map_nil]
      iterate 21 (go_big_quiet_step (fail))
      refine wpQuiet_nil ?_
      clear q0 q1 q2 q3 f1
      refine wpCan_list (k := 0) (fun KK hK => ?_) (fun _ => RbL_refl _ _)
      go_wp2_with fail
      refine (copyb_any av2 l.length cv2 l _ HPM.out.1.drew).mono ?_
      rintro e w4 ⟨u, rfl, hou, hbu0⟩
      obtain ⟨au, cu, rfl⟩ := hou.form
      go_wp2_with fail
      refine hK _ _ (fun _ => hbu0.mono (Nat.succ_le_of_lt hb1lt)) ?_
      clear hK KK
      have hbu : Below wr.heap.size wr w4 := (Below.refl _ _).drew.trans hbu0
      clear hbu0
      have hb5 : Below w4.heap.size w4 (w4.alloc (.cells #[.int .i64 (x : Int), .slice au l.length cu] 85)) := (Below.refl _ _).alloc (Nat.le_refl _) _
      have hbA : Below wr.heap.size wr (w4.alloc (.cells #[.int .i64 (x : Int), .slice au l.length cu] 85)) := hbu.trans (hb5.mono hbu.size)
      have HB5 := Lib.hid hb5
      have HBA := Lib.hid hbA
      have HI5 := Lib.hid (HQ.out.below hbA)
      have HU5 := Lib.hid (hou.below hb5)
      have HS5 := Lib.hid (Sl.litS w4 [.int .i64 (x : Int), .slice au l.length cu] 85 2 1 rfl (by decide))
      have HR5 := Lib.hid (HRr.out.after hbA)
      have hw4 : b1 + 1 ≤ w4.heap.size := Nat.le_trans (Nat.succ_le_of_lt hb1lt) hbu.size
      have HSEP : Hid (∀ g, (Value.slice au l.length cu).ownBlock = some g → (Value.slice aQ i cQ).ownBlock ≠ some g) := Lib.hid (fun q hq e => by
        have h1 : wr.heap.size ≤ q := hou.lt q hq
        have h2 := HQ.out.own.lives q e
        omega)
      clear hou hb5 hbA
      refine wpCan_seg 1 (by kernel_rfl) ?_
      simp only [List.take_succ_cons, List.take_zero, List.drop_succ_cons, List.drop_zero, List.map_cons, List.map_nil]
      iterate 1 (go_big_quiet_step (fail))
      refine wpQuiet_nil ?_
      refine wpCan_list (k := 0) (fun KK hK => ?_) (fun _ => RbL_refl _ _)
      go_wp2_with fail
      refine hK _ _ (fun _ => HB5.out.mono hw4) ?_
      clear hK KK
      refine wpCan_list (k := 0) (fun KK hK => ?_) (fun _ => RbL_refl _ _)
      go_wp2_with (at_builtin; refine wpL_appendY etRW rfl _ _ rfl HI5.out.own rfl HS5.out rfl (by simp [Value.oneCell']) (by omega) (by simp [maxLen]; omega) (Nat.le_trans (Nat.succ_le_of_lt hb1lt) HBA.out.size) ?_; intro v6 w6 ho6 hg6 hor6; obtain ⟨a6, c6, rfl⟩ := ho6.form; have HO6 := Lib.hid ho6; have HG6 := Lib.hid hg6; have HR6 := Lib.hid hor6; clear ho6 hg6 hor6)
      have hb56 := below_own (Below.refl (b1 + 1) _) HI5.out.own HG6.out (Nat.le_refl _) (Nat.le_trans (Nat.succ_le_of_lt hb1lt) HBA.out.size)
      refine hK _ _ (fun _ => hb56) ?_
      clear hK KK
      have hr6 := HR5.out.grown HG6.out (fun e => by have := HI5.out.own.lt _ e.symm; omega)
      refine wpCan_seg 2 (by kernel_rfl) ?_
      simp only [List.take_succ_cons, List.take_zero, List.drop_succ_cons, List.drop_zero, List.map_cons, List.map_nil]
      iterate 2 (go_big_quiet_step (fail))
      refine wpQuiet_nil ?_
      refine wpCan_list (k := 1) (fun KK hK => ?_) (fun h => by cases h)
      go_wp2_with (refine wpL_storeAt rfl _ _ _ rfl rfl rfl rfl rfl (by kernel_rfl) hr6 rfl ?_; intro w7 hg7 hr7)
      refine hK _ _ (fun h => by cases h) ?_
      clear hK KK
      unfold wpCan
      go_wp2_with fail
      have hb6 : Below b1 w1 w6 := (hb.trans (HBA.out.mono (by omega))).trans (hb56.mono (by omega))
      have hI6 := HI5.out.push (p := (x, l)) (HU5.out.mono (Nat.succ_le_of_lt hb1lt)) HSEP.out HO6.out HG6.out HR6.out
      refine ⟨⟨i + 1, qv ++ [.int .i64 (x : Int), .slice au l.length cu], a6, c6, hlt, by go_num, Lib.hid hr7, Lib.hid ?_, below_grown hb6 hg7 (Nat.le_refl _) (by have := hr6.lt; omega)⟩, by simp [intOf]; omega⟩
      rw [HTP.out]
      exact ⟨hI6.own.kept hg7 (by
        cases hq : (Value.slice a6 (i + 1) c6).ownBlock with
        | none => exact .inl rfl
        | some g => exact .inr (fun e => by have := hI6.own.lt g hq; cases e; omega)), hI6.ins.kept hg7 (fun u hu g hg e => by have := (hI6.ins.lives u hu g hg).1; cases e; omega), hI6.sep⟩
end Go.Proofs.Ytcocodpeigbdaaa
