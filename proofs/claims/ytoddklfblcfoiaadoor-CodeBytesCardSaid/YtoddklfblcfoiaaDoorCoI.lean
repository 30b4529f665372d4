/-
  The document's readers of code, walked. Condition: bytes within a machine's reach.
-/
import Derived.Test.YtoddklfblcfoiaaDoorCoF
namespace Go.Proofs.YtoddklfblcfoiaaDoor
open Go Go.RowKit
set_option linter.unusedVariables false
set_option linter.unusedSimpArgs false
set_option maxRecDepth 100000

def rbC (a : Option Addr) (n c : Nat) (at_ : Nat) (bad : Bool) : List Value := [.slice a n c, .int .i64 (at_ : Nat), .bool bad]
def NB (l : List UInt8) (k at_ : Nat) (b : Bool) (x p : Nat) (b' : Bool) : Prop := (b = false ∧ b' = false ∧ numP k l at_ = some (x, p)) ∨ (b' = true ∧ (b = true ∨ numP k l at_ = none))
def TB (l : List UInt8) (at_ : Nat) (b : Bool) (S : List UInt8) (p : Nat) (b' : Bool) : Prop := (b = false ∧ b' = false ∧ textP l at_ = some (S, p)) ∨ (b' = true ∧ (b = true ∨ textP l at_ = none))
theorem ins_chain {l : List UInt8} {q o p1 A p2 B p3 C p4 p5 : Nat} {b1 b2 b3 b4 b5 : Bool} {S : List UInt8} (h1 : NB l 1 q false o p1 b1) (h2 : NB l 8 p1 b1 A p2 b2) (h3 : NB l 8 p2 b2 B p3 b3) (h4 : NB l 8 p3 b3 C p4 b4) (h5 : TB l p4 b4 S p5 b5) :
    (b5 = false ∧ insP l q = some (⟨UInt8.ofNat o, i64 A, i64 B, i64 C, S⟩, p5)) ∨ (b5 = true ∧ insP l q = none) := by
  unfold NB at h1 h2 h3 h4
  unfold TB at h5
  have hb : ∀ {x : Bool}, ¬ (x = false ∧ x = true) := by intro x ⟨h, k⟩; rw [h] at k; cases k
  rcases h1 with ⟨_, e1, h1⟩ | ⟨e1, h1⟩
  · rcases h2 with ⟨_, e2, h2⟩ | ⟨e2, h2⟩
    · rcases h3 with ⟨_, e3, h3⟩ | ⟨e3, h3⟩
      · rcases h4 with ⟨_, e4, h4⟩ | ⟨e4, h4⟩
        · rcases h5 with ⟨_, e5, h5⟩ | ⟨e5, h5⟩
          · exact .inl ⟨e5, by simp [insP, mapP, seqP, h1, h2, h3, h4, h5]⟩
          · have h5 := h5.resolve_left (fun h => hb ⟨e4, h⟩)
            exact .inr ⟨e5, by simp [insP, mapP, seqP, h1, h2, h3, h4, h5]⟩
        · have h4 := h4.resolve_left (fun h => hb ⟨e3, h⟩)
          have e5 : b5 = true := by rcases h5 with ⟨h, _⟩ | ⟨h, _⟩; exact (hb ⟨h, e4⟩).elim; exact h
          exact .inr ⟨e5, by simp [insP, mapP, seqP, h1, h2, h3, h4]⟩
      · have h3 := h3.resolve_left (fun h => hb ⟨e2, h⟩)
        have e4 : b4 = true := by rcases h4 with ⟨h, _⟩ | ⟨h, _⟩; exact (hb ⟨h, e3⟩).elim; exact h
        have e5 : b5 = true := by rcases h5 with ⟨h, _⟩ | ⟨h, _⟩; exact (hb ⟨h, e4⟩).elim; exact h
        exact .inr ⟨e5, by simp [insP, mapP, seqP, h1, h2, h3]⟩
    · have h2 := h2.resolve_left (fun h => hb ⟨e1, h⟩)
      have e3 : b3 = true := by rcases h3 with ⟨h, _⟩ | ⟨h, _⟩; exact (hb ⟨h, e2⟩).elim; exact h
      have e4 : b4 = true := by rcases h4 with ⟨h, _⟩ | ⟨h, _⟩; exact (hb ⟨h, e3⟩).elim; exact h
      have e5 : b5 = true := by rcases h5 with ⟨h, _⟩ | ⟨h, _⟩; exact (hb ⟨h, e4⟩).elim; exact h
      exact .inr ⟨e5, by simp [insP, mapP, seqP, h1, h2]⟩
  · have h1 := h1.resolve_left (fun h => by cases h)
    have e2 : b2 = true := by rcases h2 with ⟨h, _⟩ | ⟨h, _⟩; exact (hb ⟨h, e1⟩).elim; exact h
    have e3 : b3 = true := by rcases h3 with ⟨h, _⟩ | ⟨h, _⟩; exact (hb ⟨h, e2⟩).elim; exact h
    have e4 : b4 = true := by rcases h4 with ⟨h, _⟩ | ⟨h, _⟩; exact (hb ⟨h, e3⟩).elim; exact h
    have e5 : b5 = true := by rcases h5 with ⟨h, _⟩ | ⟨h, _⟩; exact (hb ⟨h, e4⟩).elim; exact h
    exact .inr ⟨e5, by simp [insP, mapP, seqP, h1]⟩
theorem sta_chain {l : List UInt8} {q p1 p2 : Nat} {b1 b2 : Bool} {S T : List UInt8} (h1 : TB l q false S p1 b1) (h2 : TB l p1 b1 T p2 b2) :
    (b2 = false ∧ staP l q = some (⟨S, T⟩, p2)) ∨ (b2 = true ∧ staP l q = none) := by
  unfold TB at h1 h2
  have hb : ∀ {x : Bool}, ¬ (x = false ∧ x = true) := by intro x ⟨h, k⟩; rw [h] at k; cases k
  rcases h1 with ⟨_, e1, h1⟩ | ⟨e1, h1⟩
  · rcases h2 with ⟨_, e2, h2⟩ | ⟨e2, h2⟩
    · exact .inl ⟨e2, by simp [staP, mapP, seqP, h1, h2]⟩
    · have h2 := h2.resolve_left (fun h => hb ⟨e1, h⟩)
      exact .inr ⟨e2, by simp [staP, mapP, seqP, h1, h2]⟩
  · have h1 := h1.resolve_left (fun h => by cases h)
    have e2 : b2 = true := by rcases h2 with ⟨h, _⟩ | ⟨h, _⟩; exact (hb ⟨h, e1⟩).elim; exact h
    exact .inr ⟨e2, by simp [staP, mapP, seqP, h1]⟩
def NumB (g : Nat) (a : Option Addr) (n c : Nat) (l : List UInt8) (at_ k : Nat) (b : Bool) (w : World) (e : Ending) (w' : World) : Prop :=
  ∃ (x p : Nat) (b' : Bool), Hid (NB l k at_ b x p b' ∧ p ≤ n) ∧ x < 256 ^ k ∧ e = .returned (.int .u64 x) ∧ Row w' g 76 (rbC a n c p b') ∧ Mods (fun b => b = g) w w'
def TextB (g : Nat) (a : Option Addr) (n c : Nat) (l : List UInt8) (at_ : Nat) (b : Bool) (w : World) (e : Ending) (w' : World) : Prop :=
  ∃ (S : List UInt8) (p : Nat) (b' : Bool), Hid (TB l at_ b S p b' ∧ p ≤ n) ∧ e = .returned (.string (str S)) ∧ Row w' g 76 (rbC a n c p b') ∧ Mods (fun b => b = g) w w'
set_option maxHeartbeats 4000000 in
theorem rnumber_p (g : Nat) (a : Option Addr) (n c : Nat) (l : List UInt8) (at_ k : Nat) (bad : Bool) (w : World) (hr : Row w g 76 (rbC a n c at_ bad)) (hl : Sl w 1 (.slice a n c) n (bvs l)) (hk : k = 1 ∨ k = 4 ∨ k = 8) (hsz : n ≤ 1000000000) (hat : at_ ≤ n) :
    Calls Tryd.prog 35 #[.pointer (some ⟨g, 0, none⟩), .int .i64 (k : Nat)] w fun e w' => NumB g a n c l at_ k bad w e w' := by
  have hn := hl.len
  have HK := Lib.hid hk
  have hk8 : k ≤ 8 := by omega
  have HL := Lib.hid hl
  have HR := Lib.hid hr
  have HN := Lib.hid hn.1
  have c0 := hr.cell 0
  have c1 := hr.cell 1
  simp only [rbC, List.getElem?_cons_zero, List.getElem?_cons_succ] at c0 c1
  have q0 := later_cell c0
  have q1 := later_cell c1
  clear hk hl hr hn c0 c1
  go_enter Tryd.func35, Tryd.ntmps35
  go_upto_region 1 with fail
  refine wp_region_idx Rb Rb_refl Rb_trans [(0,0),(0,1),(0,2),(0,3),(0,4),(0,5),(0,6),(0,7),(0,8),(1,9),(0,10),(0,11),(0,12),(0,13),(0,14)] (by kernel_rfl) (by kernel_rfl) (by kernel_rfl) ?_
  simp only [pickO, List.getD_cons_succ, List.getD_cons_zero]
  refine wpCan_seg 9 (by kernel_rfl) ?_
  simp only [List.take_succ_cons, List.take_zero, List.drop_succ_cons, List.drop_zero, List.map_cons, List.map_nil]
  iterate 9 (go_big_quiet_step (fail))
  refine wpQuiet_nil ?_
  clear q0 q1
  refine wpCan_list (k := 0) (fun KK hK => ?_) (fun _ => Rb_refl _)
  go_wp2_with fail
  refine (rget_any a n c l w.drew at_ k HL.out.drew (by omega)).mono ?_
  rintro e w8 ⟨rfl, rfl⟩
  have HB8 := Lib.hid (show Below w.heap.size w w.drew from (Below.mono (Below.drew (Below.refl w.heap.size w)) (Nat.le_refl _)))
  go_wp2_with fail
  refine hK _ _ (fun _ => Below.refl _ _) ?_
  clear hK KK
  refine wpCan_seg 5 (by kernel_rfl) ?_
  simp only [List.take_succ_cons, List.take_zero, List.drop_succ_cons, List.drop_zero, List.map_cons, List.map_nil]
  iterate 5 (go_big_quiet_step (fail))
  refine wpQuiet_nil ?_
  unfold wpCan
  obtain ⟨w8, hw8⟩ : ∃ y, y = w.drew := ⟨_, rfl⟩
  rw [← hw8] at HB8 ⊢
  clear hw8
  have hr8 := HR.out.after HB8.out
  have c1 := hr8.cell 1
  have f1 := hr8.free 1
  have c2 := hr8.cell 2
  have f2 := hr8.free 2
  simp only [rbC, List.getElem?_cons_zero, List.getElem?_cons_succ] at c1 c2
  by_cases hle : at_ + k ≤ n
  · have hg := get_of HK.out (show at_ + k ≤ l.length by rw [HN.out]; exact hle)
    rw [hg.1, hg.2.1]
    have HX : Hid (numP k l at_ = some (leN ((l.drop at_).take k), at_ + k)) := Lib.hid (by rw [numP, if_pos (by rw [HN.out]; exact hle)])
    have hxl := hg.2.2
    obtain ⟨x, hx⟩ : ∃ x, x = leN ((l.drop at_).take k) := ⟨_, rfl⟩
    rw [← hx] at HX hxl ⊢
    clear hg hx
    have HXL := Lib.hid hxl
    clear hxl
    cases bad with
    | false =>
      go_wp2_with fail
      go_ret
      refine ⟨x, at_ + k, false, Lib.hid ⟨.inl ⟨rfl, rfl, HX.out⟩, hle⟩, HXL.out, rfl, ?_, (Mods.fresh HB8.out _).trans (Mods.set _ _ _ _)⟩
      have := hr8.set 1 (.int .i64 (at_ + k : Nat))
      simpa [rbC] using this
    | true =>
      go_wp2_with fail
      go_ret
      refine ⟨0, at_, true, Lib.hid ⟨.inr ⟨rfl, .inl rfl⟩, hat⟩, Nat.pos_of_ne_zero (by simp), rfl, ?_, (Mods.fresh HB8.out _).trans (Mods.set _ _ _ _)⟩
      have := hr8.set 2 (.bool true)
      simpa [rbC] using this
  · rw [get_not (show ¬ at_ + k ≤ l.length by rw [HN.out]; exact hle)]
    have HX : Hid (numP k l at_ = none) := Lib.hid (by rw [numP, if_neg (by rw [HN.out]; exact hle)])
    go_wp2_with fail
    go_ret
    refine ⟨0, at_, true, Lib.hid ⟨.inr ⟨rfl, .inr HX.out⟩, hat⟩, Nat.pos_of_ne_zero (by simp), rfl, ?_, (Mods.fresh HB8.out _).trans (Mods.set _ _ _ _)⟩
    have := hr8.set 2 (.bool true)
    simpa [rbC] using this
set_option maxHeartbeats 4000000 in
theorem rrdtext_p (g : Nat) (a : Option Addr) (n c : Nat) (l : List UInt8) (at_ : Nat) (bad : Bool) (w : World) (hr : Row w g 76 (rbC a n c at_ bad)) (hl : Sl w 1 (.slice a n c) n (bvs l)) (hsz : n ≤ 1000000000) (hat : at_ ≤ n) (hne : Hid (n = 0 ∨ ∀ b, (Value.slice a n c).ownBlock = some b → b ≠ g)) :
    Calls Tryd.prog 36 #[.pointer (some ⟨g, 0, none⟩)] w fun e w' => TextB g a n c l at_ bad w e w' := by
  have hn := hl.len
  have HL := Lib.hid hl
  have HR := Lib.hid hr
  have HN := Lib.hid hn.1
  clear hl hr hn
  go_enter Tryd.func36, Tryd.ntmps36
  go_wp2_with fail
  refine (rnumber_p g a n c l at_ 4 bad w HR.out HL.out (by omega) hsz hat).mono ?_
  rintro e w1 ⟨x, p, b1, HX, hxl, rfl, hr1, hm1⟩
  have hle := HX.out.2
  have hxl : x < 4294967296 := hxl
  have HL1 := Lib.hid (HL.out.modsR hm1 hne)
  have HR1 := Lib.hid hr1
  have HM1 := Lib.hid hm1
  have c0 := hr1.cell 0
  have c1 := hr1.cell 1
  simp only [rbC, List.getElem?_cons_zero, List.getElem?_cons_succ] at c0 c1
  have q0 := later_cell c0
  have q1 := later_cell c1
  clear hr1 hm1 c0 c1
  go_upto_region 2 with fail
  refine wp_region_idx Rb Rb_refl Rb_trans [(0,0),(0,1),(0,2),(0,3),(0,4),(0,5),(0,6),(0,7),(0,8),(1,9),(0,10),(0,11),(0,12),(0,13),(0,14)] (by kernel_rfl) (by kernel_rfl) (by kernel_rfl) ?_
  simp only [pickO, List.getD_cons_succ, List.getD_cons_zero]
  refine wpCan_seg 9 (by kernel_rfl) ?_
  simp only [List.take_succ_cons, List.take_zero, List.drop_succ_cons, List.drop_zero, List.map_cons, List.map_nil]
  iterate 9 (go_big_quiet_step (fail))
  refine wpQuiet_nil ?_
  clear q0 q1
  refine wpCan_list (k := 0) (fun KK hK => ?_) (fun _ => Rb_refl _)
  go_wp2_with fail
  refine (rcut_any a n c l w1.drew (p : Nat) (x : Nat) HL1.out.drew (by omega)).mono ?_
  rintro e w8 ⟨v8, rfl, ho8, hb8⟩
  have HB8 := Lib.hid (show Below w1.heap.size w1 w8 from (Below.mono (Below.drew (Below.refl w1.heap.size w1)) (Nat.le_refl _)).trans hb8)
  have HO8 := Lib.hid ho8
  obtain ⟨a8, c8, rfl⟩ := ho8.form
  clear ho8
  go_wp2_with fail
  refine hK _ _ (fun _ => hb8) ?_
  clear hK KK hb8
  refine wpCan_seg 5 (by kernel_rfl) ?_
  simp only [List.take_succ_cons, List.take_zero, List.drop_succ_cons, List.drop_zero, List.map_cons, List.map_nil]
  iterate 5 (go_big_quiet_step (fail))
  refine wpQuiet_nil ?_
  unfold wpCan
  have hr8 := HR1.out.after HB8.out
  have c1 := hr8.cell 1
  have f1 := hr8.free 1
  have c2 := hr8.cell 2
  have f2 := hr8.free 2
  simp only [rbC, List.getElem?_cons_zero, List.getElem?_cons_succ] at c1 c2
  by_cases hlt : p + x ≤ n
  · have hg := cut_of (show p + x ≤ l.length by rw [HN.out]; exact hlt)
    rw [hg.1] at HO8
    rw [hg.1, hg.2]
    obtain ⟨S, hS⟩ : ∃ S, S = (l.drop p).take x := ⟨_, rfl⟩
    have HS := Lib.hid hS
    rw [← hS] at HO8 ⊢
    clear hg hS
    obtain ⟨N, hN⟩ : ∃ N, N = S.length := ⟨_, rfl⟩
    rw [← hN] at HO8 ⊢
    clear hN
    cases b1 with
    | false =>
      go_upto_region 7 with fail
      have hfar : ∀ b, (Value.slice a8 N c8).ownBlock = some b → ¬ (b = g) := fun b hb e => by
        have h1 := HO8.out.lt b hb
        have h2 := HR1.out.lt
        have h3 : w1.drew.heap.size = w1.heap.size := rfl
        omega
      have hcv := run_conv_string (w8.setCell ⟨g, 1, none⟩ (.int .i64 (p + x : Nat))) Tryd.underlying26 Tryd.underlying5 Tryd.underlying9 (HO8.out.sl.mods (Mods.set _ _ _ _) hfar)
      simp only [Int.natCast_add] at hcv
      go_wp2_with fail
      go_ret
      have hT : TB l at_ bad S (p + x) false := by
        rcases HX.out.1 with ⟨h1, _, h3⟩ | ⟨h, _⟩
        · refine .inl ⟨h1, rfl, ?_⟩
          rw [textP, h3]
          simp only
          rw [if_pos (by rw [HN.out]; exact hlt), HS.out]
        · cases h
      refine ⟨S, p + x, false, Lib.hid ⟨hT, hlt⟩, rfl, ?_, HM1.out.trans ((Mods.fresh HB8.out _).trans (Mods.set _ _ _ _))⟩
      have := hr8.set 1 (.int .i64 (p + x : Nat))
      simpa [rbC] using this
    | true =>
      go_wp2_with fail
      go_ret
      have hT : TB l at_ bad [] p true := by
        rcases HX.out.1 with ⟨_, h, _⟩ | ⟨_, h | h⟩
        · cases h
        · exact .inr ⟨rfl, .inl h⟩
        · exact .inr ⟨rfl, .inr (by rw [textP, h])⟩
      refine ⟨[], p, true, Lib.hid ⟨hT, hle⟩, rfl, ?_, HM1.out.trans ((Mods.fresh HB8.out _).trans (Mods.set _ _ _ _))⟩
      have := hr8.set 2 (.bool true)
      simpa [rbC] using this
  · rw [cut_not (show ¬ p + x ≤ l.length by rw [HN.out]; exact hlt)]
    go_wp2_with fail
    go_ret
    have hT : TB l at_ bad [] p true := by
      rcases HX.out.1 with ⟨_, _, h⟩ | ⟨_, h | h⟩
      · refine .inr ⟨rfl, .inr ?_⟩
        rw [textP, h]
        simp only
        rw [if_neg (by rw [HN.out]; exact hlt)]
      · exact .inr ⟨rfl, .inl h⟩
      · exact .inr ⟨rfl, .inr (by rw [textP, h])⟩
    refine ⟨[], p, true, Lib.hid ⟨hT, hle⟩, rfl, ?_, HM1.out.trans ((Mods.fresh HB8.out _).trans (Mods.set _ _ _ _))⟩
    have := hr8.set 2 (.bool true)
    simpa [rbC] using this
end Go.Proofs.YtoddklfblcfoiaaDoor
