/-
  The walks of octet that range over a function: digits, Put; Backward, Get.
-/
import Derived.Test.YtoddklfblcfoiaaDoorOct
namespace Go.Proofs.YtoddklfblcfoiaaDoor
open Go.RowKit Go.Shelf
attribute [local go_sem] Oper.semAt_some
set_option linter.unusedVariables false

theorem digits_any (x k : Int) (w : World) : Calls Tryd.prog 54 #[.int .u64 x, .int .i64 k] w fun e w' =>
    e = .returned (.func (.func 71) #[] #[.pointer (some ⟨w.heap.size + 1, 0, none⟩), .pointer (some ⟨w.heap.size, 0, none⟩)]) ∧ (w.alloc (.cells #[.int .u64 x] 61)).alloc (.cells #[.int .i64 k] 3) = w' := by
  go_enter Tryd.func54, Tryd.ntmps54
  go_wp2
  go_ret
  exact ⟨rfl, rfl⟩

def boxNat (W : World) (b : Nat) : Nat := match W.cell? ⟨b, 0, none⟩ with | some v => (intOf v).toNat | none => 0

set_option maxHeartbeats 800000 in
theorem digits1_in (F : Fence) (n : Nat) (hF : F.fn 71) (hro : F.round = none) (hn : 1 ≤ n) (l bs bx : Nat) (x m : Nat) (hx : x < 18446744073709551616) (hm : m < 9223372036854775808) (hne : bs ≠ bx) (J : Nat → World → Prop)
    (hJs : ∀ k W b u, (b = bs ∨ b = bx) → J k W → J k (W.setCell ⟨b, 0, none⟩ u))
    (hY : ∀ k W, k < m → J k W → YieldAt F (n - 1) Tryd.prog l #[.int .u8 ((x / 256 ^ k % 256 : Nat) : Int)] W fun e W' => e = .returned (.bool true) ∧ J (k + 1) W' ∧ W'.heap[bs]? = W.heap[bs]? ∧ W'.heap[bx]? = W.heap[bx]?)
    (W : World) (h0 : J 0 W) (hbs : Boxed W bs 3 (.int .i64 m)) (hbx : Boxed W bx 61 (.int .u64 x)) :
    CallsIn F n Tryd.prog 71 #[.func (.yield l) #[] #[], .pointer (some ⟨bs, 0, none⟩), .pointer (some ⟨bx, 0, none⟩)] W fun e W' => (∃ v, e = .returned v) ∧ J m W' := by
  refine callsIn_of_wp Tryd.func71 rfl hF ?_ hro
  simp only [Tryd.ntmps71, List.size_toArray, List.length_cons, List.length_nil, Nat.reduceAdd, Nat.reduceSub, Array.replicate_succ, Array.replicate_zero, List.push_toArray, List.append_toArray, List.nil_append, List.cons_append]
  gi_wp2
  gi_loopw [] (fun wr => ∃ k, k ≤ m ∧ J k wr ∧ Boxed wr bs 3 (.int .i64 ((m - k : Nat) : Int)) ∧ Boxed wr bx 61 (.int .u64 ((x / 256 ^ k : Nat) : Int)))
    (fun wr => boxNat wr bs)
  case atStart => exact ⟨0, Nat.zero_le _, h0, by simpa using hbs, by simpa using hbx⟩
  case round =>
    obtain ⟨k, hk, hJ, hb1, hb2⟩ := hrel
    have hc1 := hb1.cell
    have hc2 := hb2.cell
    have hf1 := hb1.frozen
    have hf2 := hb2.frozen
    obtain ⟨y, hy0⟩ : ∃ y : Nat, y = x / 256 ^ k := ⟨_, rfl⟩
    have hyx : y < 18446744073709551616 := by rw [hy0]; exact Nat.lt_of_le_of_lt (Nat.div_le_self _ _) hx
    by_cases hkm : k = m
    · subst hkm
      rw [Nat.sub_self] at hc1
      gi_wp2
      all_goals
        refine ⟨fun _ h => (by cases h), ?_⟩
        gi_wp2
        go_end0
        exact ⟨⟨_, rfl⟩, hJ⟩
    · obtain ⟨fn, tmps, assign, body, hy, hR⟩ := hY k wr (by omega) hJ
      have hnext : Hid (∀ y : Nat, y = x / 256 ^ k → y / 256 = x / 256 ^ (k + 1)) := by
        show ∀ y : Nat, _
        intro y h; rw [h, Nat.div_div_eq_div_mul, Nat.pow_succ]
      have HY0 : Hid (y = x / 256 ^ k) := hy0
      rw [← hy0] at hy hc2
      rw [Int.natCast_emod, show ((256 : Nat) : Int) = 256 from rfl] at hy
      have hpos : (0 : Int) < ((m - k : Nat) : Int) := by omega
      clear hy0
      have hm0 : Hid (boxNat wr bs = m - k) := by show boxNat wr bs = m - k; simp [boxNat, hc1, intOf]
      gi_wp2
      refine hR.mono ?_
      rintro e W3 ⟨rfl, hJ3, hs3, hx3⟩
      have hb1' : Boxed W3 bs 3 (.int .i64 ((m - k : Nat) : Int)) := hs3.trans hb1
      have hb2' : Boxed W3 bx 61 (.int .u64 (y : Int)) := by rw [HY0.out]; exact hx3.trans hb2
      have hc1' := hb1'.cell
      have hc2' := hb2'.cell
      have hf1' := hb1'.frozen
      have hf2' := hb2'.frozen
      have hb3 : ∀ u, (W3.setCell ⟨bx, 0, none⟩ u).cell? ⟨bs, 0, none⟩ = some (.int .i64 ((m - k : Nat) : Int)) := fun u => (hb1'.kept (grownBy_setCell' W3 bx u) (by simp; omega)).cell
      gi_wp2
      have e1 : ((m - k : Nat) : Int) - 1 = ((m - (k + 1) : Nat) : Int) := by omega
      have e2 : ((y : Int) / 256) = ((x / 256 ^ (k + 1) : Nat) : Int) := by rw [← hnext.out y HY0.out]; rfl
      rw [e1, e2]
      have hq1 := Boxed.set (.int .i64 ((m - (k + 1) : Nat) : Int)) (hb1'.kept (grownBy_setCell' W3 bx (.int .u64 ((x / 256 ^ (k + 1) : Nat) : Int))) (by simp; omega))
      refine ⟨⟨k + 1, by omega, hJs _ _ _ _ (.inl rfl) (hJs _ _ _ _ (.inr rfl) hJ3), hq1, (Boxed.set _ hb2').kept (grownBy_setCell' _ bs _) (by simp; omega)⟩, ?_⟩
      rw [hm0.out]
      simp only [boxNat, hq1.cell, intOf]
      omega


/-- the bytes that say x, the lowest first -/
def digs (x : Nat) (k : Nat) : List UInt8 := (List.range k).map fun i => UInt8.ofNat (x / 256 ^ i % 256)
def saysB (k : Int) : Bool := k == 1 || k == 2 || k == 4 || k == 8
def putL (l : List UInt8) (x : Nat) (k : Int) : List UInt8 := if saysB k then l ++ digs x k.toNat else l
theorem digs_succ (x k : Nat) : digs x (k + 1) = digs x k ++ [UInt8.ofNat (x / 256 ^ k % 256)] := by simp [digs, List.range_succ]
theorem digs_length (x k : Nat) : (digs x k).length = k := by simp [digs]

set_option maxHeartbeats 800000 in
theorem put_any (a : Option Addr) (n c : Nat) (l : List UInt8) (w : World) (x : Nat) (k : Int) (hl : Sl w 1 (.slice a n c) n (bvs l)) (hsz : n ≤ 70368744177664) (hx : x < 18446744073709551616) :
    Calls Tryd.prog 26 #[.slice a n c, .int .u64 x, .int .i64 k] w fun e w' => ∃ v, e = .returned v ∧ Own w' w.heap.size 1 v (putL l x k).length (bvs (putL l x k)) ∧ Below w.heap.size w w' := by
  have hn := hl.len
  have HL := Lib.hid hl
  clear hl
  cases hk : saysB k with
  | false =>
    have HP : Hid (putL l x k = l) := by show putL l x k = l; simp [putL, hk]
    go_enter Tryd.func26, Tryd.ntmps26
    go_wp2_with fail
    refine (clone_any a n c l _ HL.out (by omega)).mono ?_
    rintro e w1 ⟨v1, rfl, hown, hb⟩
    obtain ⟨a1, c1, rfl⟩ := hown.form
    have HO := Lib.hid hown
    have HB := Lib.hid hb
    clear hown hb
    go_wp2_with fail
    refine (says_any k _).mono ?_
    rintro e w2 ⟨rfl, rfl⟩
    rw [show (k == 1 || k == 2 || k == 4 || k == 8) = false from hk]
    go_wp2
    go_ret
    rw [HP.out, hn.1]
    exact ⟨_, rfl, HO.out.alloc _, HB.out.alloc HB.out.size _⟩
  | true =>
    obtain ⟨m, rfl, hm⟩ : ∃ m : Nat, k = m ∧ m ≤ 8 := by
      simp only [saysB, Bool.or_eq_true, beq_iff_eq] at hk
      exact ⟨k.toNat, by omega, by omega⟩
    have HP : Hid (putL l x m = l ++ digs x m) := by show putL l x m = _; rw [putL, if_pos hk]; rfl
    refine (callsIn_wide (n := 3)).1 ?_
    refine callsIn_of_wp_marks Tryd.func26 rfl trivial ?_
    simp only [Tryd.ntmps26, List.size_toArray, List.length_cons, List.length_nil, Nat.reduceAdd, Nat.reduceSub, Array.replicate_succ, Array.replicate_zero, List.push_toArray, List.append_toArray, List.nil_append, List.cons_append]
    gi_wp2_with (first | (refine ⟨trivial, ?_⟩; gi_at_call 52; refine (callsIn_wide.2 (clone_any a n c l _ HL.out (by omega))).mono ?_; rintro e w1 ⟨v1, rfl, hown, hb⟩; obtain ⟨a1, c1, rfl⟩ := hown.form; have HO := Lib.hid hown; have HB := Lib.hid hb; clear hown hb) | (refine ⟨trivial, ?_⟩; gi_at_call 53; refine (callsIn_wide.2 (says_any m _)).mono ?_; rintro e w2 ⟨rfl, rfl⟩; rw [show ((m : Int) == 1 || (m : Int) == 2 || (m : Int) == 4 || (m : Int) == 8) = true from hk]) | (refine ⟨trivial, ?_⟩; gi_at_call 54; refine (callsIn_wide.2 (digits_any x m _)).mono ?_; rintro e w3 ⟨rfl, rfl⟩))
    obtain ⟨S, hS⟩ : ∃ S, S = w1.heap.size := ⟨_, rfl⟩
    have hv0 : Boxed (((w1.alloc (.cells #[.slice a1 n c1] 26)).alloc (.cells #[.int .u64 x] 61)).alloc (.cells #[.int .i64 m] 3)) S 26 (.slice a1 n c1) := by rw [hS]; exact ((Boxed.new w1 _ _).alloc _).alloc _
    have hx0 : Boxed (((w1.alloc (.cells #[.slice a1 n c1] 26)).alloc (.cells #[.int .u64 x] 61)).alloc (.cells #[.int .i64 m] 3)) (S + 1) 61 (.int .u64 x) := by
      have := (Boxed.new (w1.alloc (.cells #[.slice a1 n c1] 26)) 61 (.int .u64 x)).alloc (.cells #[.int .i64 m] 3)
      rwa [World.size_alloc, ← hS] at this
    have hs0 : Boxed (((w1.alloc (.cells #[.slice a1 n c1] 26)).alloc (.cells #[.int .u64 x] 61)).alloc (.cells #[.int .i64 m] 3)) (S + 1 + 1) 3 (.int .i64 m) := by
      have := Boxed.new ((w1.alloc (.cells #[.slice a1 n c1] 26)).alloc (.cells #[.int .u64 x] 61)) 3 (.int .i64 m)
      rwa [World.size_alloc, World.size_alloc, ← hS] at this
    have hO0 : Own (((w1.alloc (.cells #[.slice a1 n c1] 26)).alloc (.cells #[.int .u64 x] 61)).alloc (.cells #[.int .i64 m] 3)) w.heap.size 1 (.slice a1 n c1) n (bvs l) := ((HO.out.alloc _).alloc _).alloc _
    have hSw : w.heap.size ≤ S := by rw [hS]; exact HB.out.size
    have hB0 : Below w.heap.size w (((w1.alloc (.cells #[.slice a1 n c1] 26)).alloc (.cells #[.int .u64 x] 61)).alloc (.cells #[.int .i64 m] 3)) := ((HB.out.alloc HB.out.size _).alloc (by simp; omega) _).alloc (by simp; omega) _
    have hz0 : (((w1.alloc (.cells #[.slice a1 n c1] 26)).alloc (.cells #[.int .u64 x] 61)).alloc (.cells #[.int .i64 m] 3)).heap.size = S + 3 := by simp; omega
    have hg0 : ∀ g, (Value.slice a1 n c1).ownBlock = some g → g < S := fun g hg => by rw [hS]; exact HO.out.lives g hg
    rw [← hS]
    clear hS HB HO
    generalize (((w1.alloc (.cells #[.slice a1 n c1] 26)).alloc (.cells #[.int .u64 x] 61)).alloc (.cells #[.int .i64 m] 3)) = W2 at hv0 hx0 hs0 hO0 hB0 hz0 ⊢
    obtain ⟨R, hRd⟩ : ∃ R : Nat → World → Prop, R = fun k W => ∃ v, Boxed W S 26 v ∧ Own W w.heap.size 1 v (n + k) (bvs (l ++ digs x k)) ∧ (∀ g, v.ownBlock = some g → g < S ∨ S + 4 < g) ∧ Below w.heap.size w W := ⟨_, rfl⟩
    refine range_law (gf := 71) rfl (fun _ => by omega) rfl trivial (enters_of Tryd.func71 (by kernel_rfl) rfl) (R m) ?_ ?_
    · intro fn r hfn hr hL0
      have HR : ∀ k W, R k W ↔ ∃ v, Boxed W S 26 v ∧ Own W w.heap.size 1 v (n + k) (bvs (l ++ digs x k)) ∧ (∀ g, v.ownBlock = some g → g < S ∨ S + 4 < g) ∧ Below w.heap.size w W := by
        intro k W; rw [hRd]
      refine (digits1_in Fence.wide (3 - 1) trivial rfl (by omega) (W2.heap.size + 1) (S + 1 + 1) (S + 1) x m hx (by omega) (by omega) (fun k W => Laid (W2.heap.size + 1) W2.heap.size r W ∧ R k W) ?js ?jy _ ⟨hL0, ?r0⟩ ((hs0.alloc _).alloc _) ((hx0.alloc _).alloc _)).mono ?fin
      case js =>
        rintro k W b u hb ⟨hL, hR⟩
        obtain ⟨v, h1, h2, h3, h4⟩ := (HR k W).1 hR
        refine ⟨hL.kept (grownBy_setCell' W b u) (by simp; omega) (by simp; omega), (HR k _).2 ⟨v, h1.kept (grownBy_setCell' W b u) (by simp; omega), h2.kept (grownBy_setCell' W b u) ?_, h3, h4.grown (grownBy_setCell' W b u) h4.size (fun k e => by cases e; omega)⟩⟩
        cases hv : v.ownBlock with
        | none => exact .inl rfl
        | some g => exact .inr (by have := h3 g hv; simp; omega)
      case r0 =>
        refine (HR 0 _).2 ⟨_, (hv0.alloc _).alloc _, ?_, fun g hg => .inl (hg0 g hg), (hB0.alloc (by omega) _).alloc (by simp; omega) _⟩
        have e : l ++ digs x 0 = l := by simp [digs]
        rw [e]
        exact (hO0.alloc _).alloc _
      case fin =>
        rintro e W ⟨he, hL, hR⟩
        exact ⟨he, hL, hR⟩
      case jy =>
        rintro k W hk ⟨hL, hR⟩
        obtain ⟨v, h1, h2, h3, h4⟩ := (HR k W).1 hR
        refine (yield_rec (R := fun W' => R (k + 1) W' ∧ W'.heap[S + 1 + 1]? = W.heap[S + 1 + 1]? ∧ W'.heap[S + 1]? = W.heap[S + 1]?) hr hfn hL rfl (by omega) ?_).mono (fun e W' h => ⟨h.1, ⟨h.2.1, h.2.2.1⟩, h.2.2.2⟩)
        clear hr
        have hL1 := hL.1
        have hL2 := hL.2
        obtain ⟨y, hy⟩ : ∃ y : Nat, y = x / 256 ^ k % 256 := ⟨_, rfl⟩
        have hy2 : y < 256 := by rw [hy]; exact Nat.mod_lt _ (by decide)
        have hdig : Hid (digs x (k + 1) = digs x k ++ [UInt8.ofNat y]) := by
          show digs x (k + 1) = _; rw [digs_succ, hy]
        have hyb : Hid ([Value.int .u8 (y : Int)] = bvs [UInt8.ofNat y]) := by
          show _ = _; simp [bvs, UInt8.toNat_ofNat', Nat.mod_eq_of_lt hy2]
        rw [← hy]
        clear hy hR
        gi_wp2
        refine ⟨hL1, ?_⟩
        have hlt := (Array.getElem?_eq_some_iff.1 hL1).1
        have q1 : ∀ b, b ≠ W2.heap.size + 1 → (W.putObj (W2.heap.size + 1) (.loop { r with state := .busy })).heap[b]? = W.heap[b]? := fun b hb => World.putObj_heap_other hb
        have q2 : (W.putObj (W2.heap.size + 1) (.loop { r with state := .busy })).heap[W2.heap.size + 1]? = some (.loop { r with state := .busy }) := World.putObj_heap_same hlt
        have q3 := grownBy_putObj' W (W2.heap.size + 1) (.loop { r with state := .busy })
        generalize W.putObj (W2.heap.size + 1) (.loop { r with state := .busy }) = W' at q1 q2 q3 ⊢
        have h1' : Boxed W' S 26 v := (q1 S (by omega)).trans h1
        have hc1 := h1'.cell
        have hf1 := h1'.frozen
        have h2' : Own W' w.heap.size 1 v (n + k) (bvs (l ++ digs x k)) := h2.kept q3 (by
          cases hv : v.ownBlock with
          | none => exact .inl rfl
          | some g => exact .inr (by have := h3 g hv; simp; omega))
        have h4' : Below w.heap.size w W' := h4.grown q3 h4.size (fun k e => by cases e; omega)
        obtain ⟨av, cv, rfl⟩ := h2'.form
        have h2a := h2'.alloc (.cells #[.int .u8 (y : Int)] 5)
        have hone := Sl.one W' (.int .u8 (y : Int)) 5
        have h1a := h1'.alloc (.cells #[.int .u8 (y : Int)] 5)
        have hne : ∀ b, S ≤ b → b ≤ S + 4 → some b ≠ (Value.slice av (n + k) cv).ownBlock := by
          intro b hb1 hb2 he
          have := h3 b he.symm
          omega
        have hsz : w.heap.size ≤ (W'.alloc (.cells #[.int .u8 (y : Int)] 5)).heap.size := by have := h4'.size; simp; omega
        gi_wp2_with (gi_at_builtin; refine wpListIn_append etB rfl _ _ rfl h2a rfl hone rfl (by simp [Value.oneCell']) (by omega) (by simp [maxLen]; omega) hsz ?_; intro v4 W4 hown4 hgr4 hblk4; obtain ⟨a4, c4, rfl⟩ := hown4.form; have hb4 := h1a.kept hgr4 (hne S (by omega) (by omega)); have hc4 := hb4.cell; have hf4 := hb4.frozen)
        have hz' : S + 4 < W'.heap.size := by have := (Array.getElem?_eq_some_iff.1 q2).1; omega
        have hz4 : S + 4 < W4.heap.size := by have := hgr4.size; simp at this; omega
        have hq : ∀ u b, S < b → b ≤ S + 4 → (W4.setCell ⟨S, 0, none⟩ u).heap[b]? = W'.heap[b]? := fun u b hb1 hb2 =>
          (((grownBy_setCell' W4 S u).block b (by omega) (by simp; omega)).trans (hgr4.block b (by simp; omega) (hne b (by omega) hb2))).trans (Below.heap_alloc _ _ _ (by omega))
        have hB4 : Below w.heap.size w W4 := (h4'.alloc h4'.size _).grown hgr4 hsz (fun g hg => by have := h2'.lt g hg; omega)
        obtain ⟨W6, hW6⟩ : ∃ W6, W6 = W4.setCell ⟨S, 0, none⟩ (Value.slice a4 (n + k + 1) c4) := ⟨_, rfl⟩
        have hq6 : ∀ b, S < b → b ≤ S + 4 → W6.heap[b]? = W'.heap[b]? := by rw [hW6]; exact hq _
        have hb6 : Boxed W6 S 26 (Value.slice a4 (n + k + 1) c4) := by rw [hW6]; exact hb4.set _
        have hne4 : ∀ b, S ≤ b → b ≤ S + 4 → some b ≠ (Value.slice a4 (n + k + 1) c4).ownBlock := by
          intro b hb1 hb2 he
          rcases hblk4 b he.symm with h | h
          · exact hne b hb1 hb2 h.symm
          · simp at h; omega
        have ho6 : Own W6 w.heap.size 1 (Value.slice a4 (n + k + 1) c4) (n + k + 1) (bvs (l ++ digs x k) ++ [.int .u8 (y : Int)]) := by
          rw [hW6]; exact hown4.kept (grownBy_setCell' W4 S _) (.inr (hne4 S (by omega) (by omega)).symm)
        have hB6 : Below w.heap.size w W6 := by rw [hW6]; exact hB4.grown (grownBy_setCell' W4 S _) hB4.size (fun g e => by cases e; omega)
        have hl6 : W6.heap[W2.heap.size + 1]? = some (.loop { r with state := .busy }) := (hq6 _ (by omega) (by omega)).trans q2
        rw [← hW6]
        have q6 := grownBy_putObj' W6 (W2.heap.size + 1) (.loop r)
        refine ⟨hl6, (hq6 _ (by omega) (by omega)).trans ((q1 _ (by omega)).trans hL2), (HR (k + 1) _).2 ⟨_, hb6.kept q6 (by simp; omega), ?_, ?_, hB6.grown q6 hB6.size (fun g e => by cases e; omega)⟩, ?_, ?_⟩
        · rw [hdig.out, ← List.append_assoc, bvs_append _ [_], ← hyb.out]
          exact ho6.kept q6 (.inr (hne4 _ (by omega) (by omega)).symm)
        · intro g hg
          have := hne4 g
          by_cases h5 : S ≤ g ∧ g ≤ S + 4
          · exact absurd hg.symm (this h5.1 h5.2)
          · omega
        · exact (World.putObj_heap_other (by omega)).trans ((hq6 _ (by omega) (by omega)).trans (q1 _ (by omega)))
        · exact (World.putObj_heap_other (by omega)).trans ((hq6 _ (by omega) (by omega)).trans (q1 _ (by omega)))
    · intro W r hR hL1 hL2
      rw [hRd] at hR
      obtain ⟨v, h1, h2, h3, h4⟩ := hR
      have q5 := grownBy_putObj' W (W2.heap.size + 1) (.loop { r with state := .exhausted })
      have hK : (W.putObj (W2.heap.size + 1) (.loop { r with state := .exhausted })).heap[W2.heap.size]? = some (.deferred (some [])) := (World.putObj_heap_other (by omega)).trans hL2
      generalize W.putObj (W2.heap.size + 1) (.loop { r with state := .exhausted }) = W5 at q5 hK ⊢
      have h1' := h1.kept q5 (by simp; omega)
      have hne : ∀ b, S ≤ b → b ≤ S + 4 → some b ≠ v.ownBlock := by
        intro b hb1 hb2 he
        have := h3 b he.symm
        omega
      have h2' := h2.kept q5 (.inr (hne _ (by omega) (by omega)).symm)
      have h4' := h4.grown q5 h4.size (fun k e => by cases e; omega)
      have hc1 := h1'.cell
      obtain ⟨av, cv, rfl⟩ := h2'.form
      dsimp only
      gi_wp2
      refine ⟨by simp, .inl ⟨_, _, rfl, run_takeDeferred hK, ?_⟩⟩
      have q7 := grownBy_putObj' W5 W2.heap.size (.deferred none)
      refine ⟨_, results_tmp rfl _ _ _, _, rfl, ?_, h4'.grown q7 h4'.size (fun g e => by cases e; omega)⟩
      rw [HP.out]
      have e : (l ++ digs x m).length = n + m := by rw [List.length_append, digs_length, hn.1]
      rw [e]
      exact h2'.kept q7 (.inr (hne _ (by omega) (by omega)).symm)

/-! ### Get -/
theorem backward_any (a : Option Addr) (n c : Nat) (w : World) : Calls Tryd.prog 72 #[.slice a n c] w fun e w' =>
    e = .returned (.func (.func 85) #[] #[.pointer (some ⟨w.heap.size, 0, none⟩)]) ∧ w.alloc (.cells #[.slice a n c] 26) = w' := by
  go_enter Tryd.func72, Tryd.ntmps72
  go_wp2
  go_ret
  exact ⟨rfl, rfl⟩

set_option maxHeartbeats 800000 in
theorem backward1_in (F : Fence) (n : Nat) (hF : F.fn 85) (hro : F.round = none) (hn : 1 ≤ n) (l bS : Nat) (a : Option Addr) (m c : Nat) (ls : List UInt8) (hm : m ≤ 9223372036854775807) (J : Nat → World → Prop)
    (hJ : ∀ k W, J k W → Boxed W bS 26 (.slice a m c) ∧ Sl W 1 (.slice a m c) m (bvs ls))
    (hY : ∀ k W, k < m → J k W → YieldAt F (n - 1) Tryd.prog l #[.int .i64 ((m - 1 - k : Nat) : Int), .int .u8 ((ls.getD (m - 1 - k) 0).toNat : Int)] W fun e W' => e = .returned (.bool true) ∧ J (k + 1) W')
    (W : World) (h0 : J 0 W) :
    CallsIn F n Tryd.prog 85 #[.func (.yield l) #[] #[], .pointer (some ⟨bS, 0, none⟩)] W fun e W' => (∃ v, e = .returned v) ∧ J m W' := by
  refine callsIn_of_wp Tryd.func85 rfl hF ?_ hro
  simp only [Tryd.ntmps85, List.size_toArray, List.length_cons, List.length_nil, Nat.reduceAdd, Nat.reduceSub, Array.replicate_succ, Array.replicate_zero, List.push_toArray, List.append_toArray, List.nil_append, List.cons_append]
  have hc0 := (hJ 0 W h0).1.cell
  gi_wp2
  gi_loopw [3] (fun v wr => ∃ k, k ≤ m ∧ v = .int .i64 ((m : Int) - 1 - k) ∧ J k wr) (fun v wr => (intOf v + 1).toNat)
  case atStart => exact ⟨0, Nat.zero_le _, by simp, h0⟩
  case round =>
    obtain ⟨k, hk, rfl, hJk⟩ := hrel
    have hc1 := (hJ k wr hJk).1.cell
    by_cases hkm : k = m
    · subst hkm
      have e : ((k : Int) - 1 - k) = -1 := by omega
      rw [e]
      gi_wp2
      go_end0
      exact ⟨⟨_, rfl⟩, hJk⟩
    · obtain ⟨fn, tmps, assign, body, hy, hR⟩ := hY k wr (by omega) hJk
      obtain ⟨j, hj⟩ : ∃ j, j = m - 1 - k := ⟨_, rfl⟩
      have hjm : j < m := by omega
      obtain ⟨b, off, rfl, hbyte⟩ := (hJ k wr hJk).2.byte hjm
      have e : ((m : Int) - 1 - k) = (j : Int) := by omega
      have HE : Hid (j = m - 1 - k) := hj
      rw [e]
      rw [← hj] at hy
      obtain ⟨y, hyy⟩ : ∃ y, y = ls.getD j 0 := ⟨_, rfl⟩
      rw [← hyy] at hy hbyte
      clear hj hyy e
      gi_wp2
      refine hR.mono ?_
      rintro e W3 ⟨rfl, hJ3⟩
      gi_wp2
      exact ⟨⟨k + 1, by omega, (by have e1 : (j : Int) - 1 = (m : Int) - 1 - ((k + 1 : Nat) : Int) := (by have := HE.out; omega); rw [e1]), hJ3⟩, by simp [intOf]⟩

/-- what bytes say, the lowest first -/
def leN : List UInt8 → Nat
  | [] => 0
  | b :: r => b.toNat + 256 * leN r
theorem leN_lt : ∀ l : List UInt8, leN l < 256 ^ l.length
  | [] => by simp [leN]
  | b :: r => by
    have h := leN_lt r
    have hb := b.toNat_lt
    simp only [leN, List.length_cons, Nat.pow_succ]
    omega
theorem leN_drop (l : List UInt8) (k : Nat) (h : k < l.length) : leN (l.drop (l.length - (k + 1))) = leN (l.drop (l.length - k)) * 256 + (l.getD (l.length - 1 - k) 0).toNat := by
  have e : l.length - (k + 1) < l.length := by omega
  rw [List.drop_eq_getElem_cons e, leN, show l.length - (k + 1) + 1 = l.length - k by omega]
  rw [show l.length - 1 - k = l.length - (k + 1) by omega]
  simp [e]
  omega
def getIs (l : List UInt8) (at_ k : Int) : Bool := cutIs l at_ k && saysB k
def getN (l : List UInt8) (at_ k : Int) : Nat := if getIs l at_ k then leN (cutL l at_ k) else 0

def getE (l : List UInt8) (at_ k : Int) : Int := if getIs l at_ k then 0 else 1
theorem results_cell_u64 {fn : Func} {p u : Tmp} (h : fn.results = #[.cell p 61, .tmp u]) {tmps : Array Value} {w : World} {b : Nat} {x : Int} (hp : tmps.getD p undef = .pointer (some ⟨b, 0, none⟩)) (hc : w.cell? ⟨b, 0, none⟩ = some (.int .u64 x)) :
    (results fn tmps).run Tryd.prog w = .ok (.tuple #[.int .u64 x, tmps.getD u undef]) w := by
  rw [results_cell_tmp h, hp]
  simp [go_sem, loadVar, hc]

set_option maxHeartbeats 800000 in
theorem get_any (a : Option Addr) (n c : Nat) (l : List UInt8) (w : World) (at_ k : Int) (hl : Sl w 1 (.slice a n c) n (bvs l)) (hsz : n ≤ 140737488355328) :
    Calls Tryd.prog 55 #[.slice a n c, .int .i64 at_, .int .i64 k] w fun e w' => e = .returned (.tuple #[.int .u64 (getN l at_ k), .int .i64 (getE l at_ k)]) ∧ Below w.heap.size w w' := by
  have hn := hl.len
  have HL := Lib.hid hl
  clear hl
  have hl1 : Sl (w.alloc (.cells #[.int .u64 0] 61)) 1 (.slice a n c) n (bvs l) := HL.out.below ((Below.refl _ _).alloc (Nat.le_refl _) _)
  have hx0 := Boxed.new w 61 (.int .u64 0)
  have hbad : getIs l at_ k = false → getN l at_ k = 0 ∧ getE l at_ k = 1 := fun h => by simp [getN, getE, h]
  cases hc : cutIs l at_ k with
  | false =>
    have HG : Hid (getIs l at_ k = false) := by show getIs l at_ k = false; simp [getIs, hc]
    rw [(hbad HG.out).1, (hbad HG.out).2]
    clear hbad
    go_enter Tryd.func55, Tryd.ntmps55
    go_wp2_with fail
    refine (cut_any a n c l _ at_ k hl1 hsz).mono ?_
    rintro e w2 ⟨v2, rfl, hown, hb⟩
    obtain ⟨a2, c2, rfl⟩ := hown.form
    rw [hc]
    have hx2 : Boxed w2 w.heap.size 61 (.int .u64 0) := (hb.block _ (by simp)).trans hx0
    have hc2 := hx2.cell
    have hf2 := hx2.frozen
    have HB := Lib.hid hb
    clear hown hb
    go_wp2_with fail
    have hx3 := hx2.set (.int .u64 0)
    refine bodyPost_ret (results_cell_u64 rfl rfl hx3.cell) rfl ⟨rfl, ?_⟩
    exact (((Below.refl w.heap.size w).alloc (Nat.le_refl _) _).trans (HB.out.mono (by simp))).grown (grownBy_setCell' w2 _ _) (by have := HB.out.size; simp at this; omega) (fun g e => by cases e; exact Nat.le_refl _)
  | true =>
    cases hk : saysB k with
    | false =>
      have HG : Hid (getIs l at_ k = false) := by show getIs l at_ k = false; simp [getIs, hk]
      rw [(hbad HG.out).1, (hbad HG.out).2]
      clear hbad
      go_enter Tryd.func55, Tryd.ntmps55
      go_wp2_with fail
      refine (cut_any a n c l _ at_ k hl1 hsz).mono ?_
      rintro e w2 ⟨v2, rfl, hown, hb⟩
      obtain ⟨a2, c2, rfl⟩ := hown.form
      rw [hc]
      have hx2 : Boxed w2 w.heap.size 61 (.int .u64 0) := (hb.block _ (by simp)).trans hx0
      have hc2 := hx2.cell
      have hf2 := hx2.frozen
      have HB := Lib.hid hb
      clear hown hb
      go_wp2_with fail
      refine (says_any k _).mono ?_
      rintro e w4 ⟨rfl, rfl⟩
      rw [show (k == 1 || k == 2 || k == 4 || k == 8) = false from hk]
      go_wp2_with fail
      have hx3 := hx2.set (.int .u64 0)
      refine bodyPost_ret (results_cell_u64 rfl rfl hx3.cell) rfl ⟨rfl, ?_⟩
      exact (((Below.refl w.heap.size w).alloc (Nat.le_refl _) _).trans (HB.out.mono (by simp))).grown (grownBy_setCell' w2 _ _) (by have := HB.out.size; simp at this; omega) (fun g e => by cases e; exact Nat.le_refl _)
    | true =>
      obtain ⟨fl, hfl⟩ : ∃ fl, fl = cutL l at_ k := ⟨_, rfl⟩
      obtain ⟨m, hm⟩ : ∃ m, m = fl.length := ⟨_, rfl⟩
      have hm8 : m ≤ 8 := by
        simp only [saysB, Bool.or_eq_true, beq_iff_eq] at hk
        rw [hm, hfl, cutL, hc]
        simp
        omega
      have HG : Hid (getN l at_ k = leN fl ∧ getE l at_ k = 0) := by
        show getN l at_ k = leN fl ∧ getE l at_ k = 0
        simp [getN, getE, getIs, hc, hk, hfl]
      rw [HG.out.1, HG.out.2]
      have HF := Lib.hid hfl
      have HM := Lib.hid hm
      clear hbad HG hfl hm
      refine (callsIn_wide (n := 3)).1 ?_
      refine callsIn_of_wp_marks Tryd.func55 rfl trivial ?_
      simp only [Tryd.ntmps55, List.size_toArray, List.length_cons, List.length_nil, Nat.reduceAdd, Nat.reduceSub, Array.replicate_succ, Array.replicate_zero, List.push_toArray, List.append_toArray, List.nil_append, List.cons_append]
      gi_wp2_with (first | (refine ⟨trivial, ?_⟩; gi_at_call 56; refine (callsIn_wide.2 (cut_any a n c l _ at_ k hl1 hsz)).mono ?_; rintro e w2 ⟨v2, rfl, hown, hb⟩; rw [← HF.out, ← HM.out] at hown; rw [hc]; obtain ⟨a2, c2, rfl⟩ := hown.form; have HO := Lib.hid hown; have HB := Lib.hid hb; clear hown hb) | (refine ⟨trivial, ?_⟩; gi_at_call 53; refine (callsIn_wide.2 (says_any k _)).mono ?_; rintro e w3 ⟨rfl, rfl⟩; rw [show (k == 1 || k == 2 || k == 4 || k == 8) = true from hk]) | (refine ⟨trivial, ?_⟩; gi_at_call 72; refine (callsIn_wide.2 (backward_any a2 m c2 _)).mono ?_; rintro e w3 ⟨rfl, rfl⟩))
      obtain ⟨S, hS⟩ : ∃ S, S = w2.heap.size := ⟨_, rfl⟩
      have hSw : w.heap.size + 1 ≤ S := by have := HB.out.size; simp at this; omega
      have hxb0 : Boxed (w2.alloc (.cells #[.slice a2 m c2] 26)) w.heap.size 61 (.int .u64 0) := Boxed.alloc (show w2.heap[w.heap.size]? = _ from (HB.out.block _ (by simp)).trans hx0) _
      have hs0 : Boxed (w2.alloc (.cells #[.slice a2 m c2] 26)) S 26 (.slice a2 m c2) := by rw [hS]; exact Boxed.new _ _ _
      have hO0 : Own (w2.alloc (.cells #[.slice a2 m c2] 26)) (w.heap.size + 1) 1 (.slice a2 m c2) m (bvs fl) := (HO.out.mono (by simp)).alloc _
      have hB0 : Below w.heap.size w (w2.alloc (.cells #[.slice a2 m c2] 26)) := (((Below.refl w.heap.size w).alloc (Nat.le_refl _) _).trans (HB.out.mono (by simp))).alloc (by omega) _
      have hz0 : (w2.alloc (.cells #[.slice a2 m c2] 26)).heap.size = S + 1 := by simp; omega
      have hg0 : ∀ g, (Value.slice a2 m c2).ownBlock = some g → w.heap.size < g ∧ g < S := fun g hg => ⟨by have := (HO.out.mono (base' := w.heap.size + 1) (by simp)).lt g hg; omega, by rw [hS]; exact HO.out.lives g hg⟩
      have hne : ∀ b, b ≤ w.heap.size ∨ S ≤ b → (Value.slice a2 m c2).ownBlock ≠ some b := by
        intro b hb1 he
        have := hg0 b he
        omega
      rw [← hS]
      clear hS HB HO hx0 hl1
      generalize w2.alloc (.cells #[.slice a2 m c2] 26) = W2 at hxb0 hs0 hO0 hB0 hz0 ⊢
      obtain ⟨R, hRd⟩ : ∃ R : Nat → World → Prop, R = fun k W => Boxed W w.heap.size 61 (.int .u64 ((leN (fl.drop (m - k)) : Nat) : Int)) ∧ Boxed W S 26 (.slice a2 m c2) ∧ Own W (w.heap.size + 1) 1 (.slice a2 m c2) m (bvs fl) ∧ Below w.heap.size w W := ⟨_, rfl⟩
      have HR : ∀ k W, R k W ↔ Boxed W w.heap.size 61 (.int .u64 ((leN (fl.drop (m - k)) : Nat) : Int)) ∧ Boxed W S 26 (.slice a2 m c2) ∧ Own W (w.heap.size + 1) 1 (.slice a2 m c2) m (bvs fl) ∧ Below w.heap.size w W := by
        intro k W; rw [hRd]
      clear hRd
      refine range_law (gf := 85) rfl (fun _ => by omega) rfl trivial (enters_of Tryd.func85 (by kernel_rfl) rfl) (R m) ?_ ?_
      · intro fn r hfn hr hL0
        refine (backward1_in Fence.wide (3 - 1) trivial rfl (by omega) (W2.heap.size + 1) S a2 m c2 fl (by omega) (fun k W => Laid (W2.heap.size + 1) W2.heap.size r W ∧ R k W) ?js ?jy _ ⟨hL0, ?r0⟩).mono ?fin
        case js =>
          rintro k W ⟨hL, hR⟩
          obtain ⟨h1, h2, h3, h4⟩ := (HR k W).1 hR
          exact ⟨h2, h3.sl⟩
        case r0 =>
          refine (HR 0 _).2 ⟨?_, (hs0.alloc _).alloc _, (hO0.alloc _).alloc _, (hB0.alloc (by omega) _).alloc (by simp; omega) _⟩
          have e : leN (fl.drop (m - 0)) = 0 := by rw [HM.out]; simp [leN]
          rw [e]
          exact (hxb0.alloc _).alloc _
        case fin =>
          rintro e W ⟨he, hL, hR⟩
          exact ⟨he, hL, hR⟩
        case jy =>
          rintro k W hk ⟨hL, hR⟩
          obtain ⟨h1, h2, h3, h4⟩ := (HR k W).1 hR
          refine (yield_rec (R := fun W' => R (k + 1) W') hr hfn hL rfl (by omega) ?_).mono (fun e W' h => ⟨h.1, h.2.1, h.2.2⟩)
          clear hr
          have hL1 := hL.1
          have hL2 := hL.2
          have hstep : Hid (leN (fl.drop (m - (k + 1))) = leN (fl.drop (m - k)) * 256 + (fl.getD (m - 1 - k) 0).toNat) := by
            show _ = _
            have hm := HM.out; rw [hm]; exact leN_drop fl k (by omega)
          obtain ⟨y, hy⟩ : ∃ y : Nat, y = leN (fl.drop (m - k)) := ⟨_, rfl⟩
          have hy2 : y * 256 + 255 < 18446744073709551616 := by
            have h := leN_lt (fl.drop (m - k))
            rw [← hy, List.length_drop, ← HM.out, show m - (m - k) = k by omega] at h
            have : 256 ^ k ≤ 256 ^ 7 := Nat.pow_le_pow_right (by decide) (by omega)
            omega
          obtain ⟨c, hc⟩ : ∃ c : UInt8, c = fl.getD (m - 1 - k) 0 := ⟨_, rfl⟩
          have hc2 := c.toNat_lt
          rw [← hy, ← hc] at hstep
          rw [← hy] at h1
          rw [← hc]
          clear hy hc hR
          gi_wp2
          refine ⟨hL1, ?_⟩
          have hlt := (Array.getElem?_eq_some_iff.1 hL1).1
          have q1 : ∀ b, b ≠ W2.heap.size + 1 → (W.putObj (W2.heap.size + 1) (.loop { r with state := .busy })).heap[b]? = W.heap[b]? := fun b hb => World.putObj_heap_other hb
          have q2 : (W.putObj (W2.heap.size + 1) (.loop { r with state := .busy })).heap[W2.heap.size + 1]? = some (.loop { r with state := .busy }) := World.putObj_heap_same hlt
          have q3 := grownBy_putObj' W (W2.heap.size + 1) (.loop { r with state := .busy })
          generalize W.putObj (W2.heap.size + 1) (.loop { r with state := .busy }) = W' at q1 q2 q3 ⊢
          have h1' := h1.kept q3 (by simp; omega)
          have h2' := h2.kept q3 (by simp; omega)
          have h3' := h3.kept q3 (.inr (hne _ (.inr (by omega))))
          have h4' := h4.grown q3 h4.size (fun k e => by cases e; omega)
          have hc1 := h1'.cell
          have hf1 := h1'.frozen
          gi_wp2
          have q4 := grownBy_setCell' W' w.heap.size (.int .u64 ((y : Int) * 256 + (c.toNat : Int)))
          have h1s := h1'.set (.int .u64 ((y : Int) * 256 + (c.toNat : Int)))
          obtain ⟨W6, hW6⟩ : ∃ W6, W6 = W'.setCell ⟨w.heap.size, 0, none⟩ (.int .u64 ((y : Int) * 256 + (c.toNat : Int))) := ⟨_, rfl⟩
          rw [← hW6] at q4 h1s ⊢
          have hs6 : ∀ b, b ≠ w.heap.size → b < W'.heap.size → W6.heap[b]? = W'.heap[b]? := fun b hb hb' => q4.block b hb' (by simpa using hb)
          have hz' : S + 2 < W'.heap.size := by have := (Array.getElem?_eq_some_iff.1 q2).1; omega
          have q6 := grownBy_putObj' W6 (W2.heap.size + 1) (.loop r)
          have h4s := h4'.grown q4 h4'.size (fun k e => by cases e; omega)
          have e : ((leN (fl.drop (m - (k + 1))) : Nat) : Int) = (y : Int) * 256 + (c.toNat : Int) := by rw [hstep.out]; omega
          refine ⟨(hs6 _ (by omega) (by omega)).trans q2, (hs6 _ (by omega) (by omega)).trans ((q1 _ (by omega)).trans hL2), (HR (k + 1) _).2 ⟨?_, ?_, ?_, ?_⟩⟩
          · rw [e]; exact h1s.kept q6 (by simp; omega)
          · exact (h2'.kept q4 (by simp; omega)).kept q6 (by simp; omega)
          · exact (h3'.kept q4 (.inr (hne _ (.inl (Nat.le_refl _))))).kept q6 (.inr (hne _ (.inr (by omega))))
          · exact h4s.grown q6 h4s.size (fun k e => by cases e; omega)
      · intro W r hR hL1 hL2
        obtain ⟨h1, h2, h3, h4⟩ := (HR m W).1 hR
        have q5 := grownBy_putObj' W (W2.heap.size + 1) (.loop { r with state := .exhausted })
        have hK : (W.putObj (W2.heap.size + 1) (.loop { r with state := .exhausted })).heap[W2.heap.size]? = some (.deferred (some [])) := (World.putObj_heap_other (by omega)).trans hL2
        generalize W.putObj (W2.heap.size + 1) (.loop { r with state := .exhausted }) = W5 at q5 hK ⊢
        have h1' := h1.kept q5 (by simp; omega)
        have h4' := h4.grown q5 h4.size (fun k e => by cases e; omega)
        rw [Nat.sub_self, List.drop_zero] at h1'
        have hc1 := h1'.cell
        have hf1 := h1'.frozen
        clear hR
        dsimp only
        gi_wp2
        have q6 := grownBy_setCell' W5 w.heap.size (.int .u64 ((leN fl : Nat) : Int))
        have h1s := h1'.set (.int .u64 ((leN fl : Nat) : Int))
        have hK' := (q6.block W2.heap.size (Array.getElem?_eq_some_iff.1 hK).1 (by simp; omega)).trans hK
        have h4s := h4'.grown q6 h4'.size (fun k e => by cases e; omega)
        refine ⟨by simp, .inl ⟨_, _, rfl, run_takeDeferred hK', ?_⟩⟩
        have q7 := grownBy_putObj' (W5.setCell ⟨w.heap.size, 0, none⟩ (.int .u64 ((leN fl : Nat) : Int))) W2.heap.size (.deferred none)
        exact ⟨_, results_cell_u64 rfl rfl (h1s.kept q7 (by simp; omega)).cell, rfl, h4s.grown q7 h4s.size (fun k e => by cases e; omega)⟩
end Go.Proofs.YtoddklfblcfoiaaDoor
