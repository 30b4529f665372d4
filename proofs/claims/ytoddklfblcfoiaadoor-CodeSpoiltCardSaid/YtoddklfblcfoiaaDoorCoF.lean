/-
  The readers of code, walked. Condition: bytes within a machine's reach.
-/
import Derived.Test.YtoddklfblcfoiaaDoorCoC
import Derived.Test.YtoddklfblcfoiaaDoorCanP
import Derived.Test.YtoddklfblcfoiaaDoorSep
namespace Go.Proofs.YtoddklfblcfoiaaDoor
open Go Go.RowKit
set_option linter.unusedVariables false
set_option linter.unusedSimpArgs false
set_option maxRecDepth 100000

def shortE : List PanicEntry := [{ v := .iface 66 (.agg #[]), recovered := false }]
def rdC (a : Option Addr) (n c : Nat) (at_ : Nat) : List Value := [.slice a n c, .int .i64 (at_ : Nat)]
def NumR (g : Nat) (a : Option Addr) (n c : Nat) (l : List UInt8) (at_ k : Nat) (w : World) (e : Ending) (w' : World) : Prop :=
  (∃ x : Nat, Hid (numP k l at_ = some (x, at_ + k) ∧ at_ + k ≤ n ∧ x < 256 ^ k) ∧ e = .returned (.int .u64 x) ∧ Row w' g 70 (rdC a n c (at_ + k)) ∧ Mods (fun b => b = g) w w') ∨ (numP k l at_ = none ∧ e = .panicked shortE ∧ Mods (fun b => b = g) w w')
theorem get_of {l : List UInt8} {at_ k : Nat} (hk : k = 1 ∨ k = 4 ∨ k = 8) (h : at_ + k ≤ l.length) : getN l at_ k = leN ((l.drop at_).take k) ∧ getE l at_ k = 0 ∧ leN ((l.drop at_).take k) < 256 ^ k := by
  have hc : cutIs l at_ k = true := by simp only [cutIs, Bool.and_eq_true, decide_eq_true_eq]; omega
  have hs : saysB (k : Int) = true := by rcases hk with rfl | rfl | rfl <;> rfl
  have hi : getIs l at_ k = true := by rw [getIs, hc, hs]; rfl
  refine ⟨?_, by rw [getE, if_pos hi], ?_⟩
  · rw [getN, if_pos hi, cutL, if_pos hc, Int.toNat_natCast, Int.toNat_natCast]
  · have := leN_lt ((l.drop at_).take k)
    rwa [List.length_take, List.length_drop, show min k (l.length - at_) = k by omega] at this
theorem get_not {l : List UInt8} {at_ k : Nat} (h : ¬ at_ + k ≤ l.length) : getE l at_ k = 1 := by
  have hc : cutIs l at_ k = false := by
    cases hc : cutIs l at_ k with
    | false => rfl
    | true => simp only [cutIs, Bool.and_eq_true, decide_eq_true_eq] at hc; omega
  rw [getE, getIs, hc]; rfl
set_option maxHeartbeats 4000000 in
theorem number_p (g : Nat) (a : Option Addr) (n c : Nat) (l : List UInt8) (at_ k : Nat) (w : World) (hr : Row w g 70 (rdC a n c at_)) (hl : Sl w 1 (.slice a n c) n (bvs l)) (hk : k = 1 ∨ k = 4 ∨ k = 8) (hsz : n ≤ 1000000000) (hat : at_ ≤ n) :
    Calls Tryd.prog 32 #[.pointer (some ⟨g, 0, none⟩), .int .i64 (k : Nat)] w fun e w' => NumR g a n c l at_ k w e w' := by
  have hn := hl.len
  have HK := Lib.hid hk
  have hk8 : k ≤ 8 := by omega
  have HL := Lib.hid hl
  have HR := Lib.hid hr
  have HN := Lib.hid hn.1
  have c0 := hr.cell 0
  have c1 := hr.cell 1
  simp only [rdC, List.getElem?_cons_zero, List.getElem?_cons_succ] at c0 c1
  have HC1 := Lib.hid c1
  have q0 := later_cell c0
  have q1 := later_cell c1
  clear hk hl hr hn c0 c1
  go_enter Tryd.func32, Tryd.ntmps32
  go_upto_region 1 with fail
  refine wp_region_idx Rb Rb_refl Rb_trans [(0,0),(0,1),(0,2),(0,3),(0,4),(0,5),(0,6),(0,7),(0,8),(1,9),(0,10),(0,11),(0,12),(0,13),(0,14)] (by kernel_rfl) (by kernel_rfl) (by kernel_rfl) ?_
  simp only [pickO, List.getD_cons_succ, List.getD_cons_zero]
  refine wpCan_seg 9 (by kernel_rfl) ?_
  simp only [List.take_succ_cons, List.take_zero, List.drop_succ_cons, List.drop_zero, List.map_cons, List.map_nil]
  iterate 9 (go_big_quiet_step (fail))
  refine wpQuiet_nil ?_
  clear q0 q1
  refine wpCan_list (k := 0) (fun KK hK => ?_) (fun _ => Rb_refl _)
  go_wp2_with fail
  refine (get_any a n c l w.drew at_ k HL.out.drew (by omega)).mono ?_
  rintro e w8 ⟨rfl, hb8⟩
  have HB8 := Lib.hid (show Below w.heap.size w w8 from (Below.mono (Below.drew (Below.refl w.heap.size w)) (Nat.le_refl _)).trans hb8)
  go_wp2_with fail
  refine hK _ _ (fun _ => hb8) ?_
  clear hK KK hb8
  refine wpCan_seg 5 (by kernel_rfl) ?_
  simp only [List.take_succ_cons, List.take_zero, List.drop_succ_cons, List.drop_zero, List.map_cons, List.map_nil]
  iterate 5 (go_big_quiet_step (fail))
  refine wpQuiet_nil ?_
  unfold wpCan
  by_cases hle : at_ + k ≤ n
  · have hg := get_of HK.out (show at_ + k ≤ l.length by rw [HN.out]; exact hle)
    rw [hg.1, hg.2.1]
    have HX : Hid (numP k l at_ = some (leN ((l.drop at_).take k), at_ + k) ∧ at_ + k ≤ n ∧ leN ((l.drop at_).take k) < 256 ^ k) := Lib.hid ⟨by rw [numP, if_pos (by rw [HN.out]; exact hle)], hle, hg.2.2⟩
    obtain ⟨x, hx⟩ : ∃ x, x = leN ((l.drop at_).take k) := ⟨_, rfl⟩
    rw [← hx] at HX ⊢
    clear hg hx
    have hr8 := HR.out.after HB8.out
    have c1 := hr8.cell 1
    have f1 := hr8.free 1
    simp only [rdC, List.getElem?_cons_zero, List.getElem?_cons_succ] at c1
    go_wp2_with fail
    go_ret
    refine .inl ⟨x, HX, rfl, ?_, (Mods.fresh HB8.out _).trans (Mods.set _ _ _ _)⟩
    have := hr8.set 1 (.int .i64 (at_ + k : Nat))
    simpa [rdC] using this
  · rw [get_not (show ¬ at_ + k ≤ l.length by rw [HN.out]; exact hle)]
    have HX : Hid (numP k l at_ = none) := Lib.hid (by rw [numP, if_neg (by rw [HN.out]; exact hle)])
    go_wp2_with fail
    exact ⟨rfl, .inr ⟨HX.out, rfl, Mods.fresh HB8.out _⟩⟩
/-! ### a text -/
theorem cut_of {l : List UInt8} {at_ k : Nat} (h : at_ + k ≤ l.length) : cutL l at_ k = (l.drop at_).take k ∧ cutIs l at_ k = true := by
  have hc : cutIs l at_ k = true := by simp only [cutIs, Bool.and_eq_true, decide_eq_true_eq]; omega
  exact ⟨by rw [cutL, if_pos hc, Int.toNat_natCast, Int.toNat_natCast], hc⟩
theorem cut_not {l : List UInt8} {at_ k : Nat} (h : ¬ at_ + k ≤ l.length) : cutIs l at_ k = false := by
  cases hc : cutIs l at_ k with
  | false => rfl
  | true => simp only [cutIs, Bool.and_eq_true, decide_eq_true_eq] at hc; omega
def TextR (g : Nat) (a : Option Addr) (n c : Nat) (l : List UInt8) (at_ : Nat) (w : World) (e : Ending) (w' : World) : Prop :=
  (∃ (S : List UInt8) (p : Nat), Hid (textP l at_ = some (S, p) ∧ p ≤ n) ∧ e = .returned (.string (str S)) ∧ Row w' g 70 (rdC a n c p) ∧ Mods (fun b => b = g) w w') ∨ (textP l at_ = none ∧ e = .panicked shortE ∧ Mods (fun b => b = g) w w')
theorem Sl.modsR {w w' : World} {g : Nat} {a : Option Addr} {n c : Nat} {l : List UInt8} (h : Sl w 1 (.slice a n c) n (bvs l)) (hm : Mods (fun b => b = g) w w') (hne : Hid (n = 0 ∨ ∀ b, (Value.slice a n c).ownBlock = some b → b ≠ g)) : Sl w' 1 (.slice a n c) n (bvs l) := by
  rcases hne.out with h0 | h1
  · subst h0
    obtain ⟨hl, a', c', he, h1, h2, h3, h4⟩ := h
    refine ⟨hl, a', c', he, h1, h2, h3, fun j u hu => ?_⟩
    have := (List.getElem?_eq_some_iff.1 hu).1
    omega
  · exact h.mods hm h1
set_option maxHeartbeats 4000000 in
theorem rdtext_p (g : Nat) (a : Option Addr) (n c : Nat) (l : List UInt8) (at_ : Nat) (w : World) (hr : Row w g 70 (rdC a n c at_)) (hl : Sl w 1 (.slice a n c) n (bvs l)) (hsz : n ≤ 1000000000) (hat : at_ ≤ n) (hne : Hid (n = 0 ∨ ∀ b, (Value.slice a n c).ownBlock = some b → b ≠ g)) :
    Calls Tryd.prog 34 #[.pointer (some ⟨g, 0, none⟩)] w fun e w' => TextR g a n c l at_ w e w' := by
  have hn := hl.len
  have HL := Lib.hid hl
  have HR := Lib.hid hr
  have HN := Lib.hid hn.1
  clear hl hr hn
  go_enter Tryd.func34, Tryd.ntmps34
  go_wp2_with fail
  refine (number_p g a n c l at_ 4 w HR.out HL.out (by omega) hsz hat).mono ?_
  rintro e w1 (⟨x, HX, rfl, hr1, hm1⟩ | ⟨hx, rfl, hm1⟩)
  · have hle := HX.out.2.1
    obtain ⟨p, hp⟩ : ∃ p, p = at_ + 4 := ⟨_, rfl⟩
    rw [← hp] at HX hr1 hle
    clear hp
    have hxl : x < 4294967296 := HX.out.2.2
    have HL1 := Lib.hid (HL.out.modsR hm1 hne)
    have HR1 := Lib.hid hr1
    have HM1 := Lib.hid hm1
    have c0 := hr1.cell 0
    have c1 := hr1.cell 1
    simp only [rdC, List.getElem?_cons_zero, List.getElem?_cons_succ] at c0 c1
    have q0 := later_cell c0
    have q1 := later_cell c1
    clear hr1 hm1 c0 c1
    go_upto_region 2 with fail
    refine wp_region_idx Rb Rb_refl Rb_trans [(0,0),(0,1),(0,2),(0,3),(0,4),(0,5),(0,6),(0,7),(0,8),(1,9),(0,10),(0,11),(0,12),(0,13),(0,14)] (by kernel_rfl) (by kernel_rfl) (by kernel_rfl) ?_
    simp only [pickO, List.getD_cons_succ, List.getD_cons_zero]
    refine wpCan_seg 9 (by kernel_rfl) ?_
    simp only [List.take_succ_cons, List.take_zero, List.drop_succ_cons, List.drop_zero, List.map_cons, List.map_nil]
    iterate 9 (go_big_quiet_step (fail))
    refine wpQuiet_nil ?_
    clear q0 q1
    refine wpCan_list (k := 0) (fun KK hK => ?_) (fun _ => Rb_refl _)
    go_wp2_with fail
    refine (cut_any a n c l w1.drew (p : Nat) (x : Nat) HL1.out.drew (by omega)).mono ?_
    rintro e w8 ⟨v8, rfl, ho8, hb8⟩
    have HB8 := Lib.hid (show Below w1.heap.size w1 w8 from (Below.mono (Below.drew (Below.refl w1.heap.size w1)) (Nat.le_refl _)).trans hb8)
    have HO8 := Lib.hid ho8
    obtain ⟨a8, c8, rfl⟩ := ho8.form
    clear ho8
    go_wp2_with fail
    refine hK _ _ (fun _ => hb8) ?_
    clear hK KK hb8
    refine wpCan_seg 5 (by kernel_rfl) ?_
    simp only [List.take_succ_cons, List.take_zero, List.drop_succ_cons, List.drop_zero, List.map_cons, List.map_nil]
    iterate 5 (go_big_quiet_step (fail))
    refine wpQuiet_nil ?_
    unfold wpCan
    by_cases hlt : p + x ≤ n
    · have hg := cut_of (show p + x ≤ l.length by rw [HN.out]; exact hlt)
      have hT : textP l at_ = some ((l.drop p).take x, p + x) := by
        rw [textP, HX.out.1]
        simp only
        rw [if_pos (by rw [HN.out]; exact hlt)]
      rw [hg.1] at HO8
      rw [hg.1, hg.2]
      have HT := Lib.hid (show textP l at_ = some ((l.drop p).take x, p + x) ∧ p + x ≤ n from ⟨hT, hlt⟩)
      obtain ⟨S, hS⟩ : ∃ S, S = (l.drop p).take x := ⟨_, rfl⟩
      rw [← hS] at HT HO8 ⊢
      clear hg hT hS
      obtain ⟨N, hN⟩ : ∃ N, N = S.length := ⟨_, rfl⟩
      rw [← hN] at HO8 ⊢
      clear hN
      have hr8 := HR1.out.after HB8.out
      have c1 := hr8.cell 1
      have f1 := hr8.free 1
      simp only [rdC, List.getElem?_cons_zero, List.getElem?_cons_succ] at c1
      go_upto_region 6 with fail
      have hfar : ∀ b, (Value.slice a8 N c8).ownBlock = some b → ¬ (b = g) := fun b hb e => by
        have h1 := HO8.out.lt b hb
        have h2 := HR1.out.lt
        have h3 : w1.drew.heap.size = w1.heap.size := rfl
        omega
      have hcv := run_conv_string (w8.setCell ⟨g, 1, none⟩ (.int .i64 (p + x : Nat))) Tryd.underlying26 Tryd.underlying5 Tryd.underlying9 (HO8.out.sl.mods (Mods.set _ _ _ _) hfar)
      simp only [Int.natCast_add] at hcv
      go_wp2_with fail
      go_ret
      refine .inl ⟨_, _, HT, rfl, ?_, HM1.out.trans ((Mods.fresh HB8.out _).trans (Mods.set _ _ _ _))⟩
      have := hr8.set 1 (.int .i64 (p + x : Nat))
      simpa [rdC] using this
    · rw [cut_not (show ¬ p + x ≤ l.length by rw [HN.out]; exact hlt)]
      have HT : Hid (textP l at_ = none) := Lib.hid (by
        rw [textP, HX.out.1]
        simp only
        rw [if_neg (by rw [HN.out]; exact hlt)])
      go_wp2_with fail
      exact ⟨rfl, .inr ⟨HT.out, rfl, HM1.out.trans (Mods.fresh HB8.out _)⟩⟩
  · go_wp2_with fail
    exact ⟨rfl, .inr ⟨by rw [textP, hx], rfl, hm1⟩⟩
/-! ### an instruction -/
theorem i64w {x : Nat} (h : x < 18446744073709551616) : wrap64 (x : Int) = i64 x := by
  unfold i64 wrap64
  split <;> omega
def zsC (o : Nat) (zs : List Nat) (S : List UInt8) : List Value := [.int .u8 (o : Nat), .int .i64 (i64 (zs.getD 0 0)), .int .i64 (i64 (zs.getD 1 0)), .int .i64 (i64 (zs.getD 2 0)), .string (str S)]
def InsH (l : List UInt8) (at_ o : Nat) (zs : List Nat) : Prop := (numP 1 l at_ = some (o, at_ + 1) ∧ o < 256) ∧ ∀ j z, zs[j]? = some z → numP 8 l (at_ + 1 + 8 * j) = some (z, at_ + 1 + 8 * (j + 1)) ∧ z < 18446744073709551616
theorem InsH.next {l : List UInt8} {at_ o : Nat} {zs : List Nat} (h : InsH l at_ o zs) {i z : Nat} (hi : zs.length = i) (hz : numP 8 l (at_ + 1 + 8 * i) = some (z, at_ + 1 + 8 * i + 8)) (hlt : z < 18446744073709551616) : InsH l at_ o (zs ++ [z]) := by
  refine ⟨h.1, fun j y hj => ?_⟩
  rw [List.getElem?_append] at hj
  split at hj
  · exact h.2 j y hj
  · have : j = i := by
      cases hk : j - zs.length with
      | zero => omega
      | succ k => rw [hk] at hj; simp at hj
    subst this
    rw [hi, Nat.sub_self] at hj
    cases hj
    exact ⟨by rw [hz]; congr 2, hlt⟩
theorem InsH.no {l : List UInt8} {at_ o : Nat} {zs : List Nat} (h : InsH l at_ o zs) {i : Nat} (hi : zs.length = i) (h3 : i < 3) (hz : numP 8 l (at_ + 1 + 8 * i) = none) : insP l at_ = none := by
  have g0 := h.1.1
  have g := h.2
  subst hi
  match zs, h3, g, hz with
  | [], _, g, hz => simp [insP, mapP, seqP, g0, show numP 8 l (at_ + 1) = none from hz]
  | [a], _, g, hz =>
    have g1 := (g 0 a rfl).1
    simp only [Nat.mul_zero, Nat.add_zero, Nat.zero_add, Nat.mul_one] at g1
    have hz' : numP 8 l (at_ + 1 + 8) = none := hz
    simp [insP, mapP, seqP, g0, g1, hz']
  | [a, b], _, g, hz =>
    have g1 := (g 0 a rfl).1
    have g2 := (g 1 b rfl).1
    simp only [Nat.mul_zero, Nat.add_zero, Nat.zero_add, Nat.mul_one] at g1 g2
    have hz' : numP 8 l (at_ + 1 + 8 * 2) = none := hz
    simp [insP, mapP, seqP, g0, g1, g2, hz']
theorem InsH.text {l : List UInt8} {at_ o : Nat} {zs : List Nat} (h : InsH l at_ o zs) (hi : zs.length = 3) :
    insP l at_ = (textP l (at_ + 25)).map fun z => (⟨UInt8.ofNat o, i64 (zs.getD 0 0), i64 (zs.getD 1 0), i64 (zs.getD 2 0), z.1⟩, z.2) := by
  have g0 := h.1.1
  have g := h.2
  match zs, hi, g with
  | [a, b, c], _, g =>
    have g1 := (g 0 a rfl).1
    have g2 := (g 1 b rfl).1
    have g3 := (g 2 c rfl).1
    simp only [Nat.mul_zero, Nat.add_zero, Nat.zero_add, Nat.mul_one] at g1 g2 g3
    have e : at_ + 1 + 8 * (2 + 1) = at_ + 25 := by omega
    rw [e] at g3
    cases ht : textP l (at_ + 25) with
    | none => simp [insP, mapP, seqP, g0, g1, g2, g3, ht]
    | some z => simp [insP, mapP, seqP, g0, g1, g2, g3, ht]
def InsR (g : Nat) (a : Option Addr) (n c : Nat) (l : List UInt8) (at_ : Nat) (w : World) (e : Ending) (w' : World) : Prop :=
  (∃ (x : Ins) (p : Nat), Hid (insP l at_ = some (x, p) ∧ p ≤ n) ∧ e = .returned (insV x) ∧ Row w' g 70 (rdC a n c p) ∧ Mods (fun b => b = g) w w') ∨ (insP l at_ = none ∧ e = .panicked shortE ∧ Mods (fun b => b = g) w w')
def RdL (g : Nat) (a : Option Addr) (n c : Nat) (l : List UInt8) (at_ : Nat) (w : World) (v13 : Value) (wr : World) : Prop :=
  ∃ (i o : Nat) (zs : List Nat), i ≤ 3 ∧ v13 = .int .i64 (i : Nat) ∧ Hid (zs.length = i ∧ InsH l at_ o zs ∧ at_ + 1 + 8 * i ≤ n ∧ Row wr w.heap.size 46 (zsC o zs []) ∧ Row wr g 70 (rdC a n c (at_ + 1 + 8 * i)) ∧ Mods (fun b => b = g) w wr)
theorem RdL.mk {g : Nat} {a : Option Addr} {n c : Nat} {l : List UInt8} {at_ : Nat} {w : World} {v13 : Value} {wr : World} (i o : Nat) (zs : List Nat) (h1 : i ≤ 3) (h2 : v13 = .int .i64 (i : Nat)) (h3 : zs.length = i) (h4 : InsH l at_ o zs) (h5 : at_ + 1 + 8 * i ≤ n) (h6 : Row wr w.heap.size 46 (zsC o zs [])) (h7 : Row wr g 70 (rdC a n c (at_ + 1 + 8 * i))) (h8 : Mods (fun b => b = g) w wr) : RdL g a n c l at_ w v13 wr :=
  ⟨i, o, zs, h1, h2, Lib.hid ⟨h3, h4, h5, h6, h7, h8⟩⟩
theorem zsC_next (o : Nat) (zs : List Nat) (x i : Nat) (hi : zs.length = i) (h3 : i < 3) : (zsC o zs []).set (i + 1) (.int .i64 (i64 x)) = zsC o (zs ++ [x]) [] := by
  subst hi
  match zs, h3 with
  | [], _ => rfl
  | [a], _ => rfl
  | [a, b], _ => rfl
theorem zsC_free (o : Nat) (zs : List Nat) (i : Nat) (hi : i < 5) : ∃ v, (zsC o zs [])[i]? = some v := ⟨_, List.getElem?_eq_getElem (by simp [zsC]; omega)⟩
set_option maxHeartbeats 4000000 in
theorem rdins_p (g : Nat) (a : Option Addr) (n c : Nat) (l : List UInt8) (at_ : Nat) (w : World) (hr : Row w g 70 (rdC a n c at_)) (hl : Sl w 1 (.slice a n c) n (bvs l)) (hsz : n ≤ 1000000000) (hat : at_ ≤ n) (hne : Hid (n = 0 ∨ ∀ b, (Value.slice a n c).ownBlock = some b → b ≠ g)) :
    Calls Tryd.prog 33 #[.pointer (some ⟨g, 0, none⟩)] w fun e w' => InsR g a n c l at_ w e w' := by
  have hn := hl.len
  have HL := Lib.hid hl
  have HG := Lib.hid hr.lt
  have HN := Lib.hid hn.1
  obtain ⟨wz, hwz⟩ : ∃ y, y = w.alloc (.cells #[.int .u8 0, .int .i64 0, .int .i64 0, .int .i64 0, .string ⟨#[]⟩] 46) := ⟨_, rfl⟩
  have hrz : Row wz w.heap.size 46 [.int .u8 0, .int .i64 0, .int .i64 0, .int .i64 0, .string ⟨#[]⟩] := by rw [hwz]; exact Row.new w _ _
  have hbz : Below w.heap.size w wz := by rw [hwz]; exact (Below.refl _ _).alloc (Nat.le_refl _) _
  have HRZ := Lib.hid hrz
  have HR := Lib.hid (hr.after hbz)
  have HBZ := Lib.hid hbz
  have HLZ := Lib.hid (hl.below hbz)
  clear hl hr hn hrz hbz
  go_enter Tryd.func33, Tryd.ntmps33
  go_upto_region 1 with fail
  rw [← hwz]
  clear hwz
  go_wp2_with fail
  refine (number_p g a n c l at_ 1 wz HR.out HLZ.out (by omega) hsz hat).mono ?_
  rintro e w1 (⟨x, HX, rfl, hr1, hm1⟩ | ⟨hx, rfl, hm1⟩)
  · have hxl : x < 256 := HX.out.2.2
    have hro := HRZ.out.mods hm1 (fun e => by have := HG.out; omega)
    have c0 := hro.cell 0
    have f0 := hro.free 0
    simp only [List.getElem?_cons_zero] at c0
    have HRO := Lib.hid hro
    have HR1 := Lib.hid hr1
    have HM1 := Lib.hid (((Mods.fresh HBZ.out _)).trans hm1)
    clear hr1 hm1 hro HRZ HR HLZ HBZ
    have i0 : ∀ (x y z : Addr) (w : World), Sem.run Tryd.prog (Instr.index 104 (.agg #[.pointer (some x), .pointer (some y), .pointer (some z)]) (.int .i64 0)) w = .ok (.pointer (some x)) w := fun _ _ _ _ => by kernel_rfl
    have i1 : ∀ (x y z : Addr) (w : World), Sem.run Tryd.prog (Instr.index 104 (.agg #[.pointer (some x), .pointer (some y), .pointer (some z)]) (.int .i64 1)) w = .ok (.pointer (some y)) w := fun _ _ _ _ => by kernel_rfl
    have i2 : ∀ (x y z : Addr) (w : World), Sem.run Tryd.prog (Instr.index 104 (.agg #[.pointer (some x), .pointer (some y), .pointer (some z)]) (.int .i64 2)) w = .ok (.pointer (some z)) w := fun _ _ _ _ => by kernel_rfl
    go_wp2_with fail
    go_loopw [4, 13] (fun _ v13 wr => RdL g a n c l at_ w v13 wr) (fun _ v13 _ => 3 - (intOf v13).toNat)
    case atStart =>
      refine RdL.mk 0 x [] (by decide) rfl rfl ⟨⟨HX.out.1, hxl⟩, fun j z hz => by simp at hz⟩ HX.out.2.1 ?_ ?_ ?_
      · have := HRO.out.set 0 (.int .u8 (x : Nat))
        simpa [zsC, str, i64] using this
      · exact HR1.out.other (by have := HG.out; omega) _
      · exact HM1.out.after (Mods.set _ _ _ _) (fun b hb => .inr (by rw [hb]; exact Nat.le_refl _))
    case round =>
      clear HRO HR1 HM1 HX
      obtain ⟨i, o, zs, hi, rfl, HR⟩ := hrel
      have hcase : i = 0 ∨ i = 1 ∨ i = 2 ∨ i = 3 := by omega
      rcases hcase with rfl | rfl | rfl | rfl
      · have hHR := HR.out
        have hle := HR.out.2.2.1
        go_wp2_with fail
        refine (number_p g a n c l (at_ + 1 + 8 * 0) 8 wr HR.out.2.2.2.2.1 (HL.out.modsR HR.out.2.2.2.2.2 hne) (by omega) hsz hle).mono ?_
        rintro e w1 (⟨x, HX, rfl, hr1, hm1⟩ | ⟨hx, rfl, hm1⟩)
        · have hxl : x < 18446744073709551616 := HX.out.2.2
          have hro : Row w1 w.heap.size 46 (zsC o zs []) := HR.out.2.2.2.1.mods hm1 (fun e => by have := HG.out; omega)
          obtain ⟨vo, hvo⟩ := zsC_free o zs (0 + 1) (by omega)
          have c1 := (hro.cell (0 + 1)).trans hvo
          have f1 := hro.free (0 + 1)
          have HRO := Lib.hid hro
          have HR1 := Lib.hid hr1
          have HM1 := Lib.hid (HR.out.2.2.2.2.2.trans hm1)
          simp only [Nat.zero_add, Nat.reduceAdd] at c1 f1
          clear hr1 hm1 hro hvo hHR
          go_wp2_with fail
          rw [i64w hxl]
          have hrs := HRO.out.set (0 + 1) (.int .i64 (i64 x))
          rw [zsC_next o zs x 0 HR.out.1 (by decide)] at hrs
          refine ⟨RdL.mk (0 + 1) o (zs ++ [x]) (by decide) (by go_num) (by rw [List.length_append, HR.out.1]; rfl) (HR.out.2.1.next HR.out.1 HX.out.1 hxl) (by have := HX.out.2.1; omega) hrs ?_ ?_, by simp [intOf]⟩
          · exact (HR1.out.other (by have := HG.out; omega) _)
          · exact HM1.out.after (Mods.set _ _ _ _) (fun b hb => .inr (by rw [hb]; exact Nat.le_refl _))
        · go_wp2_with fail
          exact ⟨rfl, .inr ⟨HR.out.2.1.no HR.out.1 (by decide) hx, rfl, HR.out.2.2.2.2.2.trans hm1⟩⟩
      · have hHR := HR.out
        have hle := HR.out.2.2.1
        go_wp2_with fail
        refine (number_p g a n c l (at_ + 1 + 8 * 1) 8 wr HR.out.2.2.2.2.1 (HL.out.modsR HR.out.2.2.2.2.2 hne) (by omega) hsz hle).mono ?_
        rintro e w1 (⟨x, HX, rfl, hr1, hm1⟩ | ⟨hx, rfl, hm1⟩)
        · have hxl : x < 18446744073709551616 := HX.out.2.2
          have hro : Row w1 w.heap.size 46 (zsC o zs []) := HR.out.2.2.2.1.mods hm1 (fun e => by have := HG.out; omega)
          obtain ⟨vo, hvo⟩ := zsC_free o zs (1 + 1) (by omega)
          have c1 := (hro.cell (1 + 1)).trans hvo
          have f1 := hro.free (1 + 1)
          have HRO := Lib.hid hro
          have HR1 := Lib.hid hr1
          have HM1 := Lib.hid (HR.out.2.2.2.2.2.trans hm1)
          simp only [Nat.zero_add, Nat.reduceAdd] at c1 f1
          clear hr1 hm1 hro hvo hHR
          go_wp2_with fail
          rw [i64w hxl]
          have hrs := HRO.out.set (1 + 1) (.int .i64 (i64 x))
          rw [zsC_next o zs x 1 HR.out.1 (by decide)] at hrs
          refine ⟨RdL.mk (1 + 1) o (zs ++ [x]) (by decide) (by go_num) (by rw [List.length_append, HR.out.1]; rfl) (HR.out.2.1.next HR.out.1 HX.out.1 hxl) (by have := HX.out.2.1; omega) hrs ?_ ?_, by simp [intOf]⟩
          · exact (HR1.out.other (by have := HG.out; omega) _)
          · exact HM1.out.after (Mods.set _ _ _ _) (fun b hb => .inr (by rw [hb]; exact Nat.le_refl _))
        · go_wp2_with fail
          exact ⟨rfl, .inr ⟨HR.out.2.1.no HR.out.1 (by decide) hx, rfl, HR.out.2.2.2.2.2.trans hm1⟩⟩
      · have hHR := HR.out
        have hle := HR.out.2.2.1
        go_wp2_with fail
        refine (number_p g a n c l (at_ + 1 + 8 * 2) 8 wr HR.out.2.2.2.2.1 (HL.out.modsR HR.out.2.2.2.2.2 hne) (by omega) hsz hle).mono ?_
        rintro e w1 (⟨x, HX, rfl, hr1, hm1⟩ | ⟨hx, rfl, hm1⟩)
        · have hxl : x < 18446744073709551616 := HX.out.2.2
          have hro : Row w1 w.heap.size 46 (zsC o zs []) := HR.out.2.2.2.1.mods hm1 (fun e => by have := HG.out; omega)
          obtain ⟨vo, hvo⟩ := zsC_free o zs (2 + 1) (by omega)
          have c1 := (hro.cell (2 + 1)).trans hvo
          have f1 := hro.free (2 + 1)
          have HRO := Lib.hid hro
          have HR1 := Lib.hid hr1
          have HM1 := Lib.hid (HR.out.2.2.2.2.2.trans hm1)
          simp only [Nat.zero_add, Nat.reduceAdd] at c1 f1
          clear hr1 hm1 hro hvo hHR
          go_wp2_with fail
          rw [i64w hxl]
          have hrs := HRO.out.set (2 + 1) (.int .i64 (i64 x))
          rw [zsC_next o zs x 2 HR.out.1 (by decide)] at hrs
          refine ⟨RdL.mk (2 + 1) o (zs ++ [x]) (by decide) (by go_num) (by rw [List.length_append, HR.out.1]; rfl) (HR.out.2.1.next HR.out.1 HX.out.1 hxl) (by have := HX.out.2.1; omega) hrs ?_ ?_, by simp [intOf]⟩
          · exact (HR1.out.other (by have := HG.out; omega) _)
          · exact HM1.out.after (Mods.set _ _ _ _) (fun b hb => .inr (by rw [hb]; exact Nat.le_refl _))
        · go_wp2_with fail
          exact ⟨rfl, .inr ⟨HR.out.2.1.no HR.out.1 (by decide) hx, rfl, HR.out.2.2.2.2.2.trans hm1⟩⟩
      · have hle := HR.out.2.2.1
        go_wp2_with fail
        refine (rdtext_p g a n c l (at_ + 1 + 8 * 3) wr HR.out.2.2.2.2.1 (HL.out.modsR HR.out.2.2.2.2.2 hne) hsz hle hne).mono ?_
        rintro e w1 (⟨S, p, HX, rfl, hr1, hm1⟩ | ⟨hx, rfl, hm1⟩)
        · have hro : Row w1 w.heap.size 46 (zsC o zs []) := HR.out.2.2.2.1.mods hm1 (fun e => by have := HG.out; omega)
          have HRO := Lib.hid hro
          have HR1 := Lib.hid hr1
          have HM1 := Lib.hid (HR.out.2.2.2.2.2.trans hm1)
          have c0 := hro.cell 0
          have c1 := hro.cell 1
          have c2 := hro.cell 2
          have c3 := hro.cell 3
          have c4 := hro.cell 4
          have f4 := hro.free 4
          simp only [zsC, List.getElem?_cons_zero, List.getElem?_cons_succ] at c0 c1 c2 c3 c4
          clear hr1 hm1 hro
          go_upto_region 8 with fail
          have hrs := HRO.out.set 4 (.string (str S))
          obtain ⟨w2, hw2⟩ : ∃ y, y = w1.setCell ⟨w.heap.size, 4, none⟩ (.string (str S)) := ⟨_, rfl⟩
          rw [← hw2] at hrs ⊢
          have hz5 : (zsC o zs []).set 4 (.string (str S)) = zsC o zs S := rfl
          rw [hz5] at hrs
          have hg2 : w1.grownBy w2 (some w.heap.size) := by rw [hw2]; exact grown_setCell _ _ _ _
          clear hw2
          go_wp2_with (first | refine wpL_loadRow rfl _ _ rfl rfl hrs Tryd.underlying46 rfl (by kernel_rfl) ?_ | (refine wpL_storeRow rfl _ _ _ rfl (cs := zsC o zs S) rfl rfl hrs (by kernel_rfl) rfl rfl ?_; intro w3 hg3 hr3))
          try simp only [Exit.inBlock, Exit.then]
          refine bodyPost_ret (results_cell_row (P := Tryd.prog) rfl _ _ _ 46 (zsC o zs S).toArray (0, 0) _ rfl hr3 Tryd.underlying46 rfl (by kernel_rfl)) rfl ?_
          have hno := HR.out.2.1.text HR.out.1
          rw [show at_ + 25 = at_ + 1 + 8 * 3 by omega, HX.out.1] at hno
          have ho256 := HR.out.2.1.1.2
          refine .inl ⟨⟨UInt8.ofNat o, i64 (zs.getD 0 0), i64 (zs.getD 1 0), i64 (zs.getD 2 0), S⟩, p, Lib.hid ⟨hno, HX.out.2⟩, ?_, ?_, ?_⟩
          · have : (UInt8.ofNat o).toNat = o := by rw [UInt8.toNat_ofNat']; omega
            simp only [insV, zsC, this]
          · exact (HR1.out.grown hg2 (fun e => by have := HG.out; injection e with e; omega)).grown hg3 (fun e => by have := HG.out; injection e with e; omega)
          · exact (HM1.out.after (Mods.grown hg2) (fun b hb => .inr (by injection hb with hb; rw [← hb]; exact Nat.le_refl _))).after (Mods.grown hg3) (fun b hb => .inr (by injection hb with hb; rw [← hb]; exact Nat.le_refl _))
        · go_wp2_with fail
          have hno := HR.out.2.1.text HR.out.1
          rw [show at_ + 25 = at_ + 1 + 8 * 3 by omega, hx] at hno
          exact ⟨rfl, .inr ⟨hno, rfl, HR.out.2.2.2.2.2.trans hm1⟩⟩
  · go_wp2_with fail
    exact ⟨rfl, .inr ⟨by simp [insP, mapP, seqP, hx], rfl, (Mods.fresh HBZ.out _).trans hm1⟩⟩
end Go.Proofs.YtoddklfblcfoiaaDoor
