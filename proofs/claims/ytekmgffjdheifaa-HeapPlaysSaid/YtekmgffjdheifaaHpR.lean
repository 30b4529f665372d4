/-
  Law 24's 'reach', walked: what is reached from a handle is marked. Conditions: the heap reads as one.
-/
import Derived.Test.YtekmgffjdheifaaHpZ
namespace Go.Proofs.Ytekmgffjdheifaa
open Go Go.RowKit
set_option linter.unusedVariables false
set_option linter.unusedSimpArgs false
set_option maxRecDepth 100000

/-- is a handle marked -/
def mkd (S : List Bool) (j : Int) : Prop := 0 ≤ j ∧ S.getD j.toNat false = true
theorem mk_nat {S : List Bool} {i : Nat} : mkd S i ↔ S.getD i false = true := by
  unfold mkd
  rw [Int.toNat_natCast]
  exact ⟨fun h => h.2, fun h => ⟨by omega, h⟩⟩
theorem mk_set {S : List Bool} {i : Nat} (hi : i < S.length) (j : Int) : mkd (S.set i true) j ↔ j = i ∨ mkd S j := by
  unfold mkd
  rw [List.getD_eq_getElem?_getD, List.getD_eq_getElem?_getD, List.getElem?_set]
  by_cases e : j = i
  · subst e
    rw [Int.toNat_natCast, if_pos rfl, if_pos hi]
    simp
  · by_cases h0 : 0 ≤ j
    · rw [if_neg (by omega)]
      simp [e]
    · constructor
      · intro h; exact absurd h.1 h0
      · rintro (h | h)
        · exact absurd h e
        · exact absurd h.1 h0
theorem mk_lt {S : List Bool} {j : Int} (h : mkd S j) : ∃ i : Nat, j = i ∧ i < S.length := by
  refine ⟨j.toNat, by have := h.1; omega, ?_⟩
  rcases Nat.lt_or_ge j.toNat S.length with hl | hl
  · exact hl
  · have h2 := h.2
    rw [List.getD_eq_getElem?_getD, List.getElem?_eq_none hl] at h2
    cases h2
theorem mk_none {n : Nat} {j : Int} : ¬ mkd (List.replicate n false) j := fun h => by
  obtain ⟨i, rfl, hi⟩ := mk_lt h
  rw [mk_nat, getD_lt hi, List.getElem_replicate] at h
  cases h
def unm (S : List Bool) : Nat := S.countP (fun b => !b)
theorem unm_up : ∀ {S S' : List Bool}, S'.length = S.length → (∀ i : Nat, S.getD i false = true → S'.getD i false = true) → unm S' ≤ unm S
  | [], [], _, _ => Nat.le_refl _
  | [], _ :: _, h, _ => by simp at h
  | _ :: _, [], h, _ => by simp at h
  | a :: S, b :: S', h, hu => by
    have ih := unm_up (S := S) (S' := S') (by simpa using h) (fun i hi => by simpa using hu (i + 1) (by simpa using hi))
    have h0 := hu 0
    simp only [List.getD_cons_zero] at h0
    unfold unm at ih ⊢
    rw [List.countP_cons, List.countP_cons]
    cases a <;> cases b <;> simp at h0 ⊢ <;> omega
theorem unm_set : ∀ {S : List Bool} {i : Nat}, i < S.length → S.getD i false = false → unm (S.set i true) + 1 = unm S
  | [], i, h, _ => by simp at h
  | a :: S, 0, h, h0 => by
    simp only [List.getD_cons_zero] at h0
    subst h0
    simp [unm]
  | a :: S, i + 1, h, h0 => by
    have ih := unm_set (S := S) (i := i) (by simpa using h) (by simpa using h0)
    unfold unm at ih ⊢
    rw [List.set_cons_succ, List.countP_cons, List.countP_cons]
    omega
/-- what marking from a handle comes to -/
structure Rch (H : List Th) (S S' : List Bool) (k : Int) : Prop where
  len : S'.length = S.length
  up : ∀ j, mkd S j → mkd S' j
  sound : ∀ j, mkd S' j → mkd S j ∨ Live H [k] j
  closed : ∀ j, mkd S' j → ¬ mkd S j → ∀ y, ((2 : UInt8), y) ∈ (thAt H j).o.l → (thAt H y).is = true → mkd S' y
  root : (thAt H k).is = true → mkd S' k
theorem Rch.still {H : List Th} {S : List Bool} {k : Int} (h : (thAt H k).is = true → mkd S k) : Rch H S S k :=
  ⟨rfl, fun _ h => h, fun _ h => .inl h, fun _ h hn => absurd h hn, h⟩
/-- on the way through the words of the handle k -/
structure Lp (H : List Th) (S S' : List Bool) (k : Int) (i : Nat) : Prop where
  len : S'.length = S.length
  up : ∀ j, mkd S j ∨ j = k → mkd S' j
  sound : ∀ j, mkd S' j → mkd S j ∨ Live H [k] j
  closed : ∀ j, mkd S' j → ¬ mkd S j → j ≠ k → ∀ y, ((2 : UInt8), y) ∈ (thAt H j).o.l → (thAt H y).is = true → mkd S' y
  done : ∀ p, p < i → ∀ y, (thAt H k).o.l.getD p (0, 0) = ((2 : UInt8), y) → (thAt H y).is = true → mkd S' y
theorem Lp.start {H : List Th} {S : List Bool} {k : Nat} (hk : k < S.length) (hi : (thAt H k).is = true) : Lp H S (S.set k true) k 0 :=
  ⟨List.length_set .., fun j hj => (mk_set hk j).2 (by rcases hj with h | h; exact .inr h; exact .inl h), fun j hj => by
    rcases (mk_set hk j).1 hj with rfl | h
    · exact .inr (.root (List.mem_singleton.2 rfl) hi)
    · exact .inl h, fun j hj hn hne => by
    rcases (mk_set hk j).1 hj with h | h
    · exact absurd h hne
    · exact absurd h hn, fun p hp => by omega⟩
theorem Live.via {H : List Th} {k y j : Int} (h : Live H [y] j) (hk : Live H [k] y) : Live H [k] j := by
  induction h with
  | root h1 h2 => rw [List.mem_singleton.1 h1]; exact hk
  | step _ h1 h2 ih => exact .step ih h1 h2
theorem Lp.go {H : List Th} {S S1 S2 : List Bool} {k : Int} {i : Nat} (h : Lp H S S1 k i) {y : Int} (hw : (thAt H k).o.l.getD i (0, 0) = ((2 : UInt8), y)) (hi : i < (thAt H k).o.l.length) (hk : (thAt H k).is = true) (r : Rch H S1 S2 y) : Lp H S S2 k (i + 1) :=
  ⟨r.len.trans h.len, fun j hj => r.up j (h.up j hj), fun j hj => by
    rcases r.sound j hj with h1 | h1
    · exact h.sound j h1
    · right
      have hy : (thAt H y).is = true := by
        clear hj
        have : Live H [y] y := by
          induction h1 with
          | root h1 h2 => rw [List.mem_singleton.1 h1] at h2; exact .root (List.mem_singleton.2 rfl) h2
          | step _ _ _ ih => exact ih
        exact this.is
      refine h1.via (.step (.root (List.mem_singleton.2 rfl) hk) (y := y) ?_ hy)
      rw [getD_lt hi] at hw
      rw [← hw]
      exact List.getElem_mem hi, fun j hj hn hne z h1 h2 => by
    by_cases hj1 : mkd S1 j
    · exact r.up z (h.closed j hj1 hn hne z h1 h2)
    · exact r.closed j hj hj1 z h1 h2, fun p hp z hz hzi => by
    rcases Nat.lt_or_ge p i with hl | hl
    · exact r.up z (h.done p hl z hz hzi)
    · obtain rfl : p = i := by omega
      rw [hw] at hz
      cases hz
      exact r.root hzi⟩
theorem Lp.skip {H : List Th} {S S1 : List Bool} {k : Int} {i : Nat} (h : Lp H S S1 k i) (hn : ∀ y, (thAt H k).o.l.getD i (0, 0) = ((2 : UInt8), y) → (thAt H y).is = false) : Lp H S S1 k (i + 1) :=
  ⟨h.len, h.up, h.sound, h.closed, fun p hp z hz hzi => by
    rcases Nat.lt_or_ge p i with hl | hl
    · exact h.done p hl z hz hzi
    · obtain rfl : p = i := by omega
      rw [hn z hz] at hzi
      cases hzi⟩
theorem Lp.end_ {H : List Th} {S S1 : List Bool} {k : Int} (h : Lp H S S1 k (thAt H k).o.l.length) : Rch H S S1 k :=
  ⟨h.len, fun j hj => h.up j (.inl hj), h.sound, fun j hj hn z h1 h2 => by
    by_cases e : j = k
    · subst e
      obtain ⟨p, hp, he⟩ := List.mem_iff_getElem.1 h1
      exact h.done p hp z (by rw [getD_lt hp]; exact he) h2
    · exact h.closed j hj hn e z h1 h2, fun _ => h.up k (.inr rfl)⟩
/-- behind a row of roots -/
structure Rchs (H : List Th) (S : List Bool) (R : List Int) : Prop where
  len : S.length = H.length
  sound : ∀ j, mkd S j → Live H R j
  closed : ∀ j, mkd S j → ∀ y, ((2 : UInt8), y) ∈ (thAt H j).o.l → (thAt H y).is = true → mkd S y
  root : ∀ k ∈ R, (thAt H k).is = true → mkd S k
theorem Rchs.start (H : List Th) : Rchs H (List.replicate H.length false) [] :=
  ⟨List.length_replicate .., fun j h => absurd h mk_none, fun j h => absurd h mk_none, fun k h => by cases h⟩
theorem Live.mono {H : List Th} {R R' : List Int} {j : Int} (h : Live H R j) (hr : ∀ k ∈ R, k ∈ R') : Live H R' j := by
  induction h with
  | root h1 h2 => exact .root (hr _ h1) h2
  | step _ h1 h2 ih => exact .step ih h1 h2
theorem Rchs.next {H : List Th} {S S' : List Bool} {R : List Int} {k : Int} (h : Rchs H S R) (r : Rch H S S' k) : Rchs H S' (R ++ [k]) :=
  ⟨r.len.trans h.len, fun j hj => by
    rcases r.sound j hj with h1 | h1
    · exact (h.sound j h1).mono (fun x hx => List.mem_append.2 (.inl hx))
    · exact h1.mono (fun x hx => List.mem_append.2 (.inr hx)), fun j hj y h1 h2 => by
    by_cases hm : mkd S j
    · exact r.up y (h.closed j hm y h1 h2)
    · exact r.closed j hj hm y h1 h2, fun x hx hi => by
    rcases List.mem_append.1 hx with h1 | h1
    · exact r.up x (h.root x h1 hi)
    · rw [List.mem_singleton.1 h1] at hi ⊢
      exact r.root hi⟩
theorem Rchs.all {H : List Th} {S : List Bool} {R : List Int} (h : Rchs H S R) (j : Int) : mkd S j ↔ Live H R j := by
  refine ⟨h.sound j, fun hl => ?_⟩
  induction hl with
  | root h1 h2 => exact h.root _ h1 h2
  | step _ h1 h2 ih => exact h.closed _ ih _ h1 h2
def RcP (b gd od sz : Nat) (w0 : World) (H : List Th) (n : Nat) (col : Nat → Nat) (S : List Bool) (k : Int) (w : World) (e : Ending) (w' : World) : Prop :=
  e = .returned (.tuple #[]) ∧ ∃ S', Hid (Rch H S S' k ∧ Pl 1048576 b w0 H n col w' ∧ OwnC col w' 9 1 (.slice (some ⟨gd, od, none⟩) sz sz) sz (bos S') ∧ Mods (fun g => g = gd) w w')
def RcR (b gd od sz : Nat) (w0 : World) (H : List Th) (n : Nat) (col : Nat → Nat) (S : List Bool) (k : Int) (w : World) (g7 n7 : Nat) (v7 : Value) (v8 : Value) (wr : World) : Prop :=
  ∃ (i : Nat) (S1 : List Bool), i ≤ n7 ∧ v8 = .int .i64 (i : Nat) ∧ Hid (Lp H S S1 k i ∧ Pl 1048576 b w0 H n col wr ∧ OwnC col wr 9 1 (.slice (some ⟨gd, od, none⟩) sz sz) sz (bos S1) ∧ Mods (fun g => g = gd) w wr ∧ wr.cell? ⟨g7, 2, none⟩ = some v7 ∧ Sl wr 2 v7 n7 (wcells (thAt H k).o.l))
theorem RcR.mk {b gd od sz : Nat} {w0 : World} {H : List Th} {n : Nat} {col : Nat → Nat} {S : List Bool} {k : Int} {w : World} {g7 n7 : Nat} {v7 v8 : Value} {wr : World} (i : Nat) (S1 : List Bool) (h1 : i ≤ n7) (h2 : v8 = .int .i64 (i : Nat)) (h3 : Lp H S S1 k i) (h4 : Pl 1048576 b w0 H n col wr)
    (h5 : OwnC col wr 9 1 (.slice (some ⟨gd, od, none⟩) sz sz) sz (bos S1)) (h6 : Mods (fun g => g = gd) w wr) (h7 : wr.cell? ⟨g7, 2, none⟩ = some v7) (h8 : Sl wr 2 v7 n7 (wcells (thAt H k).o.l)) : RcR b gd od sz w0 H n col S k w g7 n7 v7 v8 wr := ⟨i, S1, h1, h2, Lib.hid ⟨h3, h4, h5, h6, h7, h8⟩⟩
theorem Pl.poke {b gd : Nat} {w0 : World} {H : List Th} {n m : Nat} {col : Nat → Nat} {w w' : World} (h : Pl m b w0 H n col w) (hg : col gd = 9) (hm : Mods (fun g => g = gd) w w') : Pl m b w0 H n col w' := by
  have k : St (fun y => y = 9) col w col w' := ⟨hm.mono (fun g e => by rw [e]; exact hg), fun _ _ => rfl⟩
  exact ⟨h.K.trans (k.mono (fun x hx => by rw [hx]; show (9 : Nat) ≠ 0; decide)), h.A.st k (hq_ne nq9), h.L⟩
set_option maxHeartbeats 4000000 in
theorem reach_any (b gd od sz : Nat) (w0 : World) (H : List Th) (n : Nat) (col : Nat → Nat) (hcd : col gd = 9) (HSZ : Hid (sz = H.length)) (hsz : sz ≤ 1000) : ∀ (N : Nat) (S : List Bool) (k : Int) (w : World), unm S < N → (Lit.int .i64 k).wf = true → Hid (Pl 1048576 b w0 H n col w) →
    Hid (OwnC col w 9 1 (.slice (some ⟨gd, od, none⟩) sz sz) sz (bos S)) → Hid (S.length = H.length) →
    Calls Try.prog 27 #[.pointer (some ⟨b, 0, none⟩), .int .i64 k, .slice (some ⟨gd, od, none⟩) sz sz] w (RcP b gd od sz w0 H n col S k w) := by
  intro N
  induction N with
  | zero => intro S k w hu; omega
  | succ N ih =>
    intro S k w hu hk P D HSL
    have DL := Lib.hid (show gd < w.heap.size from D.out.1.lives gd rfl)
    have HU := Lib.hid hu
    have IH := Lib.hid ih
    clear hu ih
    cases his : (thAt H k).is with
    | false =>
      have HR : Hid (Rch H S S k) := Lib.hid (Rch.still (by rw [his]; intro h; cases h))
      have HIS := Lib.hid his
      clear his
      by_cases h0 : k < 0
      · go_enter Try.func27, Try.ntmps27
        go_wp2_with fail
        refine (pl_get P.out (by decide) k hk).mono ?_
        rintro e w7 ⟨o7, is7, a7, n7, c7, rfl, H7, P7, hb7⟩
        go_upto_region 1 with (refine wpL_storeRow rfl _ _ _ rfl (cs := [.int .u8 (o7.k.toNat : Int), .int .i64 o7.t, .slice a7 n7 c7, .string (str o7.s)]) rfl rfl (Row.new _ _ _) (by kernel_rfl) rfl rfl ?_; intro w8 hg8 hr8)
        have hb8 : Below w7.heap.size w7 w8 := below_grown ((Below.refl _ _).alloc (Nat.le_refl _) _) hg8 (Nat.le_refl _) (by simp)
        have HB8 := Lib.hid (hb7.trans (hb8.mono hb7.size))
        have P8 := Lib.hid (P7.out.down hb8)
        have S8 := Lib.hid (H7.out.2.2.2.below hb8)
        have G2 := Lib.hid (show w8.cell? ⟨w7.heap.size, 2, none⟩ = some (.slice a7 n7 c7) from hr8.cell 2)
        have G7 := Lib.hid (show gd < w7.heap.size by have := DL.out; have := hb7.size; omega)
        have D8 := Lib.hid (D.out.st (St.fresh HB8.out (fun _ => False) col) (fun h => h))
        clear hg8 hr8 hb7 hb8 P7
        go_wp2_with fail
        first | go_end0 | refine bodyPost_ret (results_none rfl _ _ _) rfl ?_
        exact ⟨rfl, S, Lib.hid ⟨HR.out, P8.out, D8.out, Mods.fresh HB8.out _⟩⟩
      · by_cases h1 : (sz : Int) ≤ k
        · go_enter Try.func27, Try.ntmps27
          go_wp2_with fail
          refine (pl_get P.out (by decide) k hk).mono ?_
          rintro e w7 ⟨o7, is7, a7, n7, c7, rfl, H7, P7, hb7⟩
          go_upto_region 1 with (refine wpL_storeRow rfl _ _ _ rfl (cs := [.int .u8 (o7.k.toNat : Int), .int .i64 o7.t, .slice a7 n7 c7, .string (str o7.s)]) rfl rfl (Row.new _ _ _) (by kernel_rfl) rfl rfl ?_; intro w8 hg8 hr8)
          have hb8 : Below w7.heap.size w7 w8 := below_grown ((Below.refl _ _).alloc (Nat.le_refl _) _) hg8 (Nat.le_refl _) (by simp)
          have HB8 := Lib.hid (hb7.trans (hb8.mono hb7.size))
          have P8 := Lib.hid (P7.out.down hb8)
          have S8 := Lib.hid (H7.out.2.2.2.below hb8)
          have G2 := Lib.hid (show w8.cell? ⟨w7.heap.size, 2, none⟩ = some (.slice a7 n7 c7) from hr8.cell 2)
          have G7 := Lib.hid (show gd < w7.heap.size by have := DL.out; have := hb7.size; omega)
          have D8 := Lib.hid (D.out.st (St.fresh HB8.out (fun _ => False) col) (fun h => h))
          clear hg8 hr8 hb7 hb8 P7
          go_wp2_with fail
          first | go_end0 | refine bodyPost_ret (results_none rfl _ _ _) rfl ?_
          exact ⟨rfl, S, Lib.hid ⟨HR.out, P8.out, D8.out, Mods.fresh HB8.out _⟩⟩
        · have h7 : Hid ((thAt H k).is = false) := HIS
          go_enter Try.func27, Try.ntmps27
          go_wp2_with fail
          refine (pl_get P.out (by decide) k hk).mono ?_
          rintro e w7 ⟨o7, is7, a7, n7, c7, rfl, H7, P7, hb7⟩
          go_upto_region 1 with (refine wpL_storeRow rfl _ _ _ rfl (cs := [.int .u8 (o7.k.toNat : Int), .int .i64 o7.t, .slice a7 n7 c7, .string (str o7.s)]) rfl rfl (Row.new _ _ _) (by kernel_rfl) rfl rfl ?_; intro w8 hg8 hr8)
          have hb8 : Below w7.heap.size w7 w8 := below_grown ((Below.refl _ _).alloc (Nat.le_refl _) _) hg8 (Nat.le_refl _) (by simp)
          have HB8 := Lib.hid (hb7.trans (hb8.mono hb7.size))
          have P8 := Lib.hid (P7.out.down hb8)
          have S8 := Lib.hid (H7.out.2.2.2.below hb8)
          have G2 := Lib.hid (show w8.cell? ⟨w7.heap.size, 2, none⟩ = some (.slice a7 n7 c7) from hr8.cell 2)
          have G7 := Lib.hid (show gd < w7.heap.size by have := DL.out; have := hb7.size; omega)
          have D8 := Lib.hid (D.out.st (St.fresh HB8.out (fun _ => False) col) (fun h => h))
          clear hg8 hr8 hb7 hb8 P7
          have h8 : is7 = false := by rw [H7.out.2.1]; exact HIS.out
          subst h8
          go_wp2_with fail
          first | go_end0 | refine bodyPost_ret (results_none rfl _ _ _) rfl ?_
          exact ⟨rfl, S, Lib.hid ⟨HR.out, P8.out, D8.out, Mods.fresh HB8.out _⟩⟩
    | true =>
      obtain ⟨kn, rfl, hkl, _⟩ := thAt_is his
      rw [← HSZ.out] at hkl
      have HIS := Lib.hid his
      clear his
      have hk0 : (0 : Int) ≤ (kn : Int) := by omega
      have hkl' : (kn : Int) < (sz : Int) := by omega
      have hlenb : kn < (bos S).length := by rw [bos_length, HSL.out, ← HSZ.out]; exact hkl
      have HB0 : Hid (w.cell? ⟨gd, od + kn, none⟩ = some (.bool (S.getD kn false))) := Lib.hid (by
        have h1 := D.out.1.get kn hlenb
        rwa [bos_get _ _ (by rw [HSL.out, ← HSZ.out]; exact hkl)] at h1)
      cases hs : S.getD kn false with
      | true =>
        have HR : Hid (Rch H S S (kn : Nat)) := Lib.hid (Rch.still (fun _ => mk_nat.2 hs))
        rw [hs] at HB0
        clear hs
        go_enter Try.func27, Try.ntmps27
        go_wp2_with fail
        refine (pl_get P.out (by decide) (kn : Nat) hk).mono ?_
        rintro e w7 ⟨o7, is7, a7, n7, c7, rfl, H7, P7, hb7⟩
        go_upto_region 1 with (refine wpL_storeRow rfl _ _ _ rfl (cs := [.int .u8 (o7.k.toNat : Int), .int .i64 o7.t, .slice a7 n7 c7, .string (str o7.s)]) rfl rfl (Row.new _ _ _) (by kernel_rfl) rfl rfl ?_; intro w8 hg8 hr8)
        have hb8 : Below w7.heap.size w7 w8 := below_grown ((Below.refl _ _).alloc (Nat.le_refl _) _) hg8 (Nat.le_refl _) (by simp)
        have HB8 := Lib.hid (hb7.trans (hb8.mono hb7.size))
        have P8 := Lib.hid (P7.out.down hb8)
        have S8 := Lib.hid (H7.out.2.2.2.below hb8)
        have G2 := Lib.hid (show w8.cell? ⟨w7.heap.size, 2, none⟩ = some (.slice a7 n7 c7) from hr8.cell 2)
        have G7 := Lib.hid (show gd < w7.heap.size by have := DL.out; have := hb7.size; omega)
        have D8 := Lib.hid (D.out.st (St.fresh HB8.out (fun _ => False) col) (fun h => h))
        clear hg8 hr8 hb7 hb8 P7
        have h8 : is7 = true := by rw [H7.out.2.1]; exact HIS.out
        subst h8
        have hcd8 := (HB8.out.cell (lt_of_cell HB0.out)).trans HB0.out
        go_wp2_with fail
        first | go_end0 | refine bodyPost_ret (results_none rfl _ _ _) rfl ?_
        exact ⟨rfl, S, Lib.hid ⟨HR.out, P8.out, D8.out, Mods.fresh HB8.out _⟩⟩
      | false =>
        have HUS : Hid (unm (S.set kn true) + 1 = unm S) := Lib.hid (unm_set (by rw [HSL.out, ← HSZ.out]; exact hkl) hs)
        rw [hs] at HB0
        have HS0 := Lib.hid hs
        clear hs
        go_enter Try.func27, Try.ntmps27
        go_wp2_with fail
        refine (pl_get P.out (by decide) (kn : Nat) hk).mono ?_
        rintro e w7 ⟨o7, is7, a7, n7, c7, rfl, H7, P7, hb7⟩
        go_upto_region 1 with (refine wpL_storeRow rfl _ _ _ rfl (cs := [.int .u8 (o7.k.toNat : Int), .int .i64 o7.t, .slice a7 n7 c7, .string (str o7.s)]) rfl rfl (Row.new _ _ _) (by kernel_rfl) rfl rfl ?_; intro w8 hg8 hr8)
        have hb8 : Below w7.heap.size w7 w8 := below_grown ((Below.refl _ _).alloc (Nat.le_refl _) _) hg8 (Nat.le_refl _) (by simp)
        have HB8 := Lib.hid (hb7.trans (hb8.mono hb7.size))
        have P8 := Lib.hid (P7.out.down hb8)
        have S8 := Lib.hid (H7.out.2.2.2.below hb8)
        have G2 := Lib.hid (show w8.cell? ⟨w7.heap.size, 2, none⟩ = some (.slice a7 n7 c7) from hr8.cell 2)
        have G7 := Lib.hid (show gd < w7.heap.size by have := DL.out; have := hb7.size; omega)
        have D8 := Lib.hid (D.out.st (St.fresh HB8.out (fun _ => False) col) (fun h => h))
        clear hg8 hr8 hb7 hb8 P7
        have h8 : is7 = true := by rw [H7.out.2.1]; exact HIS.out
        subst h8
        have hcd8 := (HB8.out.cell (lt_of_cell HB0.out)).trans HB0.out
        have HO7 := H7.out.1
        obtain ⟨xs, hxs⟩ : ∃ xs, xs = bos S := ⟨_, rfl⟩
        have hob := D8.out.1
        rw [← hxs] at hob hlenb
        have HXS := Lib.hid hxs
        clear hxs
        go_upto_region 3 with (refine wpL_storeOwn (g := 0) rfl _ _ _ rfl (v := .bool true) rfl rfl rfl rfl (by kernel_rfl) hob kn rfl hlenb ?_; intro w9 hg9 ho9)
        have HNE : Hid (∀ g, (Value.slice a7 n7 c7).ownBlock = some g → ¬ g = gd) := Lib.hid (fun g hg e => by have h1 := S8.out.lt g hg; have h3 := DL.out; omega)
        have HM9 : Hid (Mods (fun g => g = gd) w8 w9) := Lib.hid ((Mods.grown hg9).mono (fun g e => (Option.some.inj e).symm))
        have P9 := Lib.hid (P8.out.poke hcd HM9.out)
        have D9 : Hid (OwnC col w9 9 1 (.slice (some ⟨gd, od, none⟩) sz sz) sz (bos (S.set kn true))) := Lib.hid ⟨by rw [← bos_set, ← HXS.out]; exact ho9, D8.out.2⟩
        have HM : Hid (Mods (fun g => g = gd) w w9) := Lib.hid ((Mods.fresh HB8.out _).trans HM9.out)
        have G9 := Lib.hid (HM9.out.cell G2.out (by have := G7.out; omega))
        have S9 : Hid (Sl w9 2 (.slice a7 n7 c7) n7 (wcells (thAt H kn).o.l)) := Lib.hid (by
          rw [← HO7]
          exact S8.out.sl.mods HM9.out (HNE.out))
        have HL7 : Hid ((thAt H kn).o.l.length = n7) := Lib.hid (by rw [← HO7]; exact H7.out.2.2.1)
        have hn79 : n7 ≤ 16777216 := by rw [← HL7.out]; exact (P9.out.L.good.small (by decide) kn).1
        have L9 : Hid (Lp H S (S.set kn true) (kn : Nat) 0) := Lib.hid (Lp.start (by rw [HSL.out, ← HSZ.out]; exact hkl) HIS.out)
        clear hg9 ho9 hob hcd8 hlenb H7 HO7 P8 D8 S8 G2 HM9 HB0
        go_wp2_with fail
        go_loopw [8] (fun v8 wr => RcR b gd od sz w0 H n col S (kn : Nat) w w7.heap.size n7 (.slice a7 n7 c7) v8 wr) (fun v8 _ => n7 - (intOf v8).toNat)
        case atStart => exact RcR.mk 0 _ (Nat.zero_le _) rfl L9.out P9.out D9.out HM.out G9.out S9.out
        case round =>
          clear L9 P9 D9 HM G9 S9
          obtain ⟨i, S1, hi, rfl, HR⟩ := hrel
          have g2 := HR.out.2.2.2.2.1
          by_cases hin : i = n7
          · subst hin
            go_wp2_with fail
            go_end0
            exact ⟨rfl, S1, Lib.hid ⟨Lp.end_ (by rw [HL7.out]; exact HR.out.1), HR.out.2.1, HR.out.2.2.1, HR.out.2.2.2.1⟩⟩
          have hlt : i < n7 := by omega
          have hlt' : (i : Int) < n7 := by omega
          obtain ⟨bw, ow, u0, ha, hu0, hc0⟩ := HR.out.2.2.2.2.2.at (k := i * 2) (by omega)
          obtain ⟨bw', ow', u1, ha', hu1, hc1⟩ := HR.out.2.2.2.2.2.at (k := i * 2 + 1) (by omega)
          obtain ⟨e0, e1⟩ := wcells_at (thAt H kn).o.l i (by rw [HL7.out]; exact hlt)
          rw [e0] at hu0
          rw [e1] at hu1
          cases hu0
          cases hu1
          subst ha
          cases ha'
          rw [← Nat.add_assoc] at hc1
          obtain ⟨x, hx⟩ : ∃ x, x = (thAt H kn).o.l.getD i (0, 0) := ⟨_, rfl⟩
          rw [← hx] at hc0 hc1
          have HX := Lib.hid hx
          have hwx : (Lit.int .i64 x.2).wf = true := by
            rw [hx, getD_lt (by rw [HL7.out]; exact hlt)]
            exact HR.out.2.1.L.wf kn _ (List.getElem_mem _)
          clear hx
          obtain ⟨x1, y⟩ := x
          have hc1' : wr.cell? ⟨bw, ow + i * 2 + 1, none⟩ = some (.int .i64 y) := hc1
          replace hwx : (Lit.int .i64 y).wf = true := hwx
          have HWX := Lib.hid hwx
          clear hc1 e0 e1 hwx
          by_cases h2 : x1 = 2
          · subst h2
            by_cases hy : 0 ≤ y ∧ y < (sz : Int)
            · have hy0 := hy.1
              have hy1 := hy.2
              have hc0' : wr.cell? ⟨bw, ow + i * 2, none⟩ = some (.int .u8 2) := hc0
              clear hc0
              go_wp2_with fail
              refine (IH.out S1 y wr ?_ HWX.out (Lib.hid HR.out.2.1) (Lib.hid HR.out.2.2.1) (Lib.hid ?_)).mono ?_
              · have h1 := unm_up (S := S.set kn true) (S' := S1) (by rw [HR.out.1.len, List.length_set]) (fun i hi => by
                  have h2 := (mk_set (by rw [HSL.out, ← HSZ.out]; exact hkl) _).1 (mk_nat.2 hi)
                  exact mk_nat.1 (HR.out.1.up _ (by rcases h2 with h | h; exact .inr h; exact .inl h)))
                have h3 := HUS.out
                have h4 := HU.out
                omega
              · exact HR.out.1.len.trans HSL.out
              rintro e w5 ⟨rfl, S2, H5⟩
              go_wp2_with fail
              refine ⟨RcR.mk (i + 1) S2 hlt (by go_num) (HR.out.1.go HX.out.symm (by rw [HL7.out]; exact hlt) HIS.out H5.out.1) H5.out.2.1 H5.out.2.2.1 (HR.out.2.2.2.1.trans H5.out.2.2.2) (H5.out.2.2.2.cell g2 ?_) (HR.out.2.2.2.2.2.mods H5.out.2.2.2 ?_), by simp [intOf]; omega⟩
              · have := G7.out
                omega
              · exact HNE.out
            · have HSK : Hid (∀ z, (thAt H kn).o.l.getD i (0, 0) = ((2 : UInt8), z) → (thAt H z).is = false) := Lib.hid (fun z hz => by
                rw [← HX.out] at hz
                cases hz
                cases e : (thAt H y).is with
                | false => rfl
                | true =>
                  obtain ⟨q, hq, hql, _⟩ := thAt_is e
                  rw [← HSZ.out] at hql
                  omega)
              have hc0' : wr.cell? ⟨bw, ow + i * 2, none⟩ = some (.int .u8 2) := hc0
              clear hc0
              by_cases hy0 : 0 ≤ y
              · have hy1 : ¬ y < (sz : Int) := fun h => hy ⟨hy0, h⟩
                go_wp2_with fail
                exact ⟨RcR.mk (i + 1) S1 hlt (by go_num) (HR.out.1.skip HSK.out) HR.out.2.1 HR.out.2.2.1 HR.out.2.2.2.1 g2 HR.out.2.2.2.2.2, by simp [intOf]; omega⟩
              · go_wp2_with fail
                exact ⟨RcR.mk (i + 1) S1 hlt (by go_num) (HR.out.1.skip HSK.out) HR.out.2.1 HR.out.2.2.1 HR.out.2.2.2.1 g2 HR.out.2.2.2.2.2, by simp [intOf]; omega⟩
          · have HSK : Hid (∀ z, (thAt H kn).o.l.getD i (0, 0) = ((2 : UInt8), z) → (thAt H z).is = false) := Lib.hid (fun z hz => by
              rw [← HX.out] at hz
              cases hz
              exact absurd rfl h2)
            have h2' : ((x1.toNat : Int) == 2) = false := by
              simp only [beq_eq_false_iff_ne]
              intro e
              exact h2 (UInt8.toNat_inj.1 (by have : (2 : UInt8).toNat = 2 := rfl; omega))
            simp only at hc0
            generalize (x1.toNat : Int) = kk at hc0 h2'
            go_wp2_with fail
            exact ⟨RcR.mk (i + 1) S1 hlt (by go_num) (HR.out.1.skip HSK.out) HR.out.2.1 HR.out.2.2.1 HR.out.2.2.2.1 g2 HR.out.2.2.2.2.2, by simp [intOf]; omega⟩
end Go.Proofs.Ytekmgffjdheifaa
