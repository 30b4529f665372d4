/-
  slots' Empty, Right, Slots, Room, Get, Put, Drop. Conditions: the slices read as bytes, of 2^20 at most.
-/
import Derived.Test.YtafigfgcgnnbnaaSlotD
namespace Go.Proofs.Ytafigfgcgnnbnaa
open Go.RowKit
set_option linter.unusedVariables false
set_option linter.unusedSimpArgs false

theorem readL_len (p : List UInt8) : (readL p).length ≤ 255 := by
  unfold readL; split
  · exact eachL_len p
  · simp
theorem readL_flat (p : List UInt8) : (readL p).flatten.length ≤ p.length := by
  unfold readL; split
  · exact eachL_flat p
  · simp
theorem etI : ET Try.prog 42 3 (.int .i64 0) 1 8 := ⟨Try.underlying42, by kernel_rfl, rfl, by decide⟩

theorem empty_any (w : World) : Calls Try.prog 19 #[] w fun e w' => ∃ v, e = .returned v ∧ Own w' w.heap.size 1 v 1 (bvs [0]) ∧ Below w.heap.size w w' := by
  go_enter Try.func19, Try.ntmps19
  go_wp2_with fail
  go_ret
  exact ⟨_, rfl, own_new w _ 5 1 1 (Nat.le_refl _) rfl (by decide), (Below.refl _ _).alloc (Nat.le_refl _) _⟩

theorem right_any (a : Option Addr) (n c : Nat) (p : List UInt8) (w : World) (hp : Sl w 1 (.slice a n c) n (bvs p)) (hsz : n ≤ 1048576) :
    Calls Try.prog 23 #[.slice a n c] w fun e w' => e = .returned (.bool (readOk p)) ∧ Below w.heap.size w w' := by
  go_enter Try.func23, Try.ntmps23
  go_wp2_with fail
  refine (read_any a n c p w hp hsz).mono ?_
  rintro e w1 ⟨v1, cells, rfl, ho, hr, hb⟩
  replace hr := hr.below hb
  obtain ⟨a1, c1, rfl⟩ := ho.form
  go_wp2_with fail
  go_ret
  exact ⟨rfl, hb⟩

/-- the slots that have a record -/
def slotsTo (l : List (List UInt8)) (k : Nat) : List Int := ((List.range k).filter fun i => !(l.getD i []).isEmpty).map Int.ofNat
def slotsL (p : List UInt8) : List Int := slotsTo (readL p) (readL p).length
theorem slotsTo_succ (l : List (List UInt8)) (k : Nat) : slotsTo l (k + 1) = slotsTo l k ++ if (l.getD k []).isEmpty then [] else [(k : Int)] := by
  unfold slotsTo
  rw [List.range_succ, List.filter_append]
  cases h : (l.getD k []).isEmpty
  · have e : List.filter (fun i => !(l.getD i []).isEmpty) [k] = [k] := by rw [List.filter_cons, h]; rfl
    rw [e, List.map_append]; rfl
  · have e : List.filter (fun i => !(l.getD i []).isEmpty) [k] = [] := by rw [List.filter_cons, h]; rfl
    rw [e, List.append_nil]; simp
theorem slotsTo_len (l : List (List UInt8)) (k : Nat) : (slotsTo l k).length ≤ k := by
  unfold slotsTo
  rw [List.length_map]
  exact Nat.le_trans (List.length_filter_le _ _) (by simp)
set_option maxHeartbeats 800000 in
theorem slots_any (a : Option Addr) (n c : Nat) (p : List UInt8) (w : World) (hp : Sl w 1 (.slice a n c) n (bvs p)) (hsz : n ≤ 1048576) :
    Calls Try.prog 27 #[.slice a n c] w fun e w' => ∃ v, e = .returned v ∧ Own w' w.heap.size 1 v (slotsL p).length (ints (slotsL p)) ∧ Below w.heap.size w w' := by
  obtain ⟨L, hL⟩ : ∃ L, L = slotsL p := ⟨_, rfl⟩
  rw [← hL]
  obtain ⟨E, hE⟩ : ∃ E, E = readL p := ⟨_, rfl⟩
  have hE2 : E.length ≤ 255 := by rw [hE]; exact readL_len p
  have hr0 := read_any a n c p w hp hsz
  rw [← hE] at hr0
  have HLE : Hid (L = slotsTo E E.length) := by show _ = _; rw [hL, hE]; rfl
  have HR0 := Lib.hid hr0
  clear hL hE hr0
  go_enter Try.func27, Try.ntmps27
  go_wp2_with fail
  refine HR0.out.mono ?_
  rintro e w1 ⟨v1, cells, rfl, ho, hr, hb⟩
  replace hr := hr.below hb
  obtain ⟨a1, c1, rfl⟩ := ho.form
  obtain ⟨m, hm⟩ : ∃ m, m = E.length := ⟨_, rfl⟩
  rw [← hm] at ho
  rw [← hm]
  have HM := Lib.hid hm
  rw [← hm] at hE2
  clear hm
  go_wp2_with fail
  go_loopw [2, 5, 6, 14] (fun v2 v5 v6 v14 wr => ∃ k : Nat, k ≤ m ∧ v14 = .int .i64 k ∧ Own wr w1.heap.size 1 v2 (slotsTo E k).length (ints (slotsTo E k)) ∧ Below w1.heap.size w1 wr) (fun _ _ _ v14 _ => m - (intOf v14).toNat)
  case atStart => exact ⟨0, Nat.zero_le _, rfl, Own.nil _ _ _, Below.refl _ _⟩
  case round =>
    obtain ⟨k, hk, rfl, ho2, hb2⟩ := hrel
    obtain ⟨a2, c2, rfl⟩ := ho2.form
    have hle := slotsTo_len E k
    obtain ⟨N, hN⟩ : ∃ N, N = (slotsTo E k).length := ⟨_, rfl⟩
    rw [← hN] at ho2 hle
    have HN := Lib.hid hN
    rw [← hN]
    clear hN
    by_cases hkm : k = m
    · subst hkm
      go_wp2_with fail
      go_ret
      refine ⟨_, rfl, ?_, hb.trans (hb2.mono hb.size)⟩
      have e : L = slotsTo E k := by rw [HLE.out, ← HM.out]
      rw [e, ← HN.out]
      exact ho2.mono hb.size
    · have hlt : k < m := by omega
      have hlt' : (k : Int) < m := by omega
      obtain ⟨b3, o3, av, cv, r, ha3, hri, hc, hsl⟩ := row_at (ho.below hb2).sl (hr.below hb2) k hlt
      cases ha3
      have hst := slotsTo_succ E k
      have hgd : E.getD k [] = r := by rw [List.getD_eq_getElem?_getD, hri]; rfl
      rw [hgd] at hst
      by_cases h0 : r = []
      · subst h0
        have HST := Lib.hid hst
        rw [List.length_nil] at hc
        clear hst hri hgd hsl
        go_wp2_with fail
        refine ⟨⟨k + 1, by omega, by go_num, ?_, hb2⟩, by simp [intOf]; omega⟩
        rw [HST.out]
        simp only [List.isEmpty_nil, if_true, List.append_nil]
        rw [← HN.out]
        exact ho2
      · have hpos : 0 < r.length := List.length_pos_iff.2 h0
        have he : r.isEmpty = false := by simpa using h0
        rw [he] at hst
        have HST := Lib.hid hst
        obtain ⟨q, hq⟩ : ∃ q, q = r.length := ⟨_, rfl⟩
        rw [← hq] at hc hpos
        have hpos' : (0 : Int) < q := by omega
        have ho3 := ho2.alloc (.cells #[.int .i64 (k : Int)] 3)
        have hs3 := Sl.one wr (.int .i64 (k : Int)) 3
        have hb3 := hb2.alloc hb2.size (.cells #[.int .i64 (k : Int)] 3)
        clear hst hri hgd hsl he hq h0
        go_wp2_with (at_builtin; refine wpL_append etI rfl _ _ rfl ho3 rfl hs3 rfl (by simp [Value.oneCell']) (by omega) (by simp [maxLen]; omega) hb3.size ?_; intro v4 w4 ho4 hg4; have hb4 := below_own hb3 ho3 hg4 (Nat.le_refl _) hb3.size; clear hg4)
        refine ⟨⟨k + 1, by omega, by go_num, ?_, hb4⟩, by simp [intOf]; omega⟩
        rw [HST.out]
        simp only [Bool.false_eq_true, if_false, List.length_append, List.length_singleton]
        rw [← HN.out, ints_append]
        exact ho4

/-- how long a record it may take -/
def leftN (p : List UInt8) : Int := 248 - p.length - (if freeL (readL p) = (readL p).length then 1 else 0)
def roomN (p : List UInt8) : Int := if readOk p = false ∨ leftN p < 1 then -1 else leftN p
set_option maxHeartbeats 400000 in
theorem room_any (a : Option Addr) (n c : Nat) (p : List UInt8) (w : World) (hp : Sl w 1 (.slice a n c) n (bvs p)) (hsz : n ≤ 1048576) :
    Calls Try.prog 20 #[.slice a n c] w fun e w' => e = .returned (.int .i64 (roomN p)) ∧ Below w.heap.size w w' := by
  obtain ⟨E, hE⟩ : ∃ E, E = readL p := ⟨_, rfl⟩
  have hE2 : E.length ≤ 255 := by rw [hE]; exact readL_len p
  have hr0 := read_any a n c p w hp hsz
  rw [← hE] at hr0
  obtain ⟨X, hX⟩ : ∃ X, X = roomN p := ⟨_, rfl⟩
  rw [← hX]
  obtain ⟨f, hf⟩ : ∃ f, f = freeL E := ⟨_, rfl⟩
  have hpn := hp.len.1
  have HX : Hid (X = if readOk p = false ∨ (248 - (n : Int) - (if f = E.length then 1 else 0)) < 1 then -1 else (248 - (n : Int) - (if f = E.length then 1 else 0))) := by
    show _ = _
    rw [hX, roomN, leftN, hf, hE, hpn]
  cases hok : readOk p
  all_goals
    rw [hok] at hr0 HX
    have HR0 := Lib.hid hr0
    have HF := Lib.hid hf
    clear hE hr0 hok hX hf hpn
    by_cases hfl : f = E.length
    all_goals
      have hq : ((f : Int) == (E.length : Int)) = decide (f = E.length) := by
        rw [Bool.eq_iff_iff]; simp; omega
      have hlt1 : 248 - (n : Int) - (if f = E.length then 1 else 0) < 1 ∨ ¬ 248 - (n : Int) - (if f = E.length then 1 else 0) < 1 := by omega
      simp only [hfl, if_true, if_false, decide_true, decide_false] at hq hlt1 HX
      rcases hlt1 with hl1 | hl1
      all_goals
        go_enter Try.func20, Try.ntmps20
        go_wp2_with fail
        refine HR0.out.mono ?_
        rintro e w1 ⟨v1, cells, rfl, ho, hr, hb⟩
        replace hr := hr.below hb
        obtain ⟨a1, c1, rfl⟩ := ho.form
        go_wp2_with fail
        refine (free_any a1 _ c1 cells E w1 ho.sl hr).mono ?_
        rintro e w2 ⟨rfl, rfl⟩
        rw [← HF.out]
        go_wp2_with fail
        go_ret
        refine ⟨ret_int ?_, hb⟩
        rw [HX.out]
        simp
        try omega

/-! ### Get, Put, Drop -/
def getIs (p : List UInt8) (slot : Int) : Bool := decide (0 ≤ slot) && decide (slot < (readL p).length) && !((readL p).getD slot.toNat []).isEmpty
def getR (p : List UInt8) (slot : Int) : List UInt8 := if getIs p slot then (readL p).getD slot.toNat [] else []
set_option maxHeartbeats 800000 in
theorem get_any (a : Option Addr) (n c : Nat) (p : List UInt8) (w : World) (slot : Int) (hp : Sl w 1 (.slice a n c) n (bvs p)) (hsz : n ≤ 1048576) :
    Calls Try.prog 22 #[.slice a n c, .int .i64 slot] w fun e w' => ∃ v, e = .returned (.tuple #[v, .bool (getIs p slot)]) ∧ Own w' w.heap.size 1 v (getR p slot).length (bvs (getR p slot)) ∧ Below w.heap.size w w' := by
  have hr0 := read_any a n c p w hp hsz
  have hfl := readL_flat p
  have hpn := hp.len.1
  obtain ⟨E, hE⟩ : ∃ E, E = readL p := ⟨_, rfl⟩
  have hE2 : E.length ≤ 255 := by rw [hE]; exact readL_len p
  obtain ⟨G, hG⟩ : ∃ G, G = getIs p slot := ⟨_, rfl⟩
  obtain ⟨X, hX⟩ : ∃ X, X = getR p slot := ⟨_, rfl⟩
  rw [← hG, ← hX]
  have HG : Hid (G = (decide (0 ≤ slot) && decide (slot < E.length) && !(E.getD slot.toNat []).isEmpty)) := by show _ = _; rw [hG, hE]; rfl
  have HX : Hid (X = if G then E.getD slot.toNat [] else []) := by show _ = _; rw [hX, hG, hE]; rfl
  rw [← hE] at hr0 hfl
  have HR0 := Lib.hid hr0
  clear hr0 hE hG hX
  by_cases h1 : slot < 0
  · have hG0 : G = false := by rw [HG.out, decide_eq_false (by omega : ¬ 0 ≤ slot)]; rfl
    have HX0 : Hid (X = []) := by show _ = _; rw [HX.out, hG0]; rfl
    have HG0 := Lib.hid hG0
    clear hG0 hpn hfl
    go_enter Try.func22, Try.ntmps22
    go_wp2_with fail
    refine HR0.out.mono ?_
    rintro e w1 ⟨v1, cells, rfl, ho, hr, hb⟩
    replace hr := hr.below hb
    obtain ⟨a1, c1, rfl⟩ := ho.form
    go_wp2_with fail
    go_ret2
    rw [HX0.out, HG0.out]
    exact ⟨_, rfl, Own.nil _ _ _, hb⟩
  by_cases h2 : (E.length : Int) ≤ slot
  · have hG0 : G = false := by rw [HG.out, decide_eq_false (by omega : ¬ slot < E.length), Bool.and_false]; rfl
    have HX0 : Hid (X = []) := by show _ = _; rw [HX.out, hG0]; rfl
    have HG0 := Lib.hid hG0
    clear hG0 hpn hfl
    go_enter Try.func22, Try.ntmps22
    go_wp2_with fail
    refine HR0.out.mono ?_
    rintro e w1 ⟨v1, cells, rfl, ho, hr, hb⟩
    replace hr := hr.below hb
    obtain ⟨a1, c1, rfl⟩ := ho.form
    go_wp2_with fail
    go_ret2
    rw [HX0.out, HG0.out]
    exact ⟨_, rfl, Own.nil _ _ _, hb⟩
  obtain ⟨k, rfl⟩ : ∃ k : Nat, slot = k := ⟨slot.toNat, by omega⟩
  obtain ⟨m, hm⟩ : ∃ m, m = E.length := ⟨_, rfl⟩
  have hk : k < m := by omega
  have hk' : (k : Int) < m := by omega
  obtain ⟨r, hr⟩ : ∃ r, r = E.getD k [] := ⟨_, rfl⟩
  have hri : E[k]? = some r := by
    rw [hr, List.getD_eq_getElem?_getD, List.getElem?_eq_getElem (by omega)]; rfl
  have hGr : G = !r.isEmpty := by rw [HG.out, decide_eq_true (by omega : (0 : Int) ≤ (k : Int)), decide_eq_true (by omega : (k : Int) < (E.length : Int)), hr]; rfl
  have hXr : X = r := by
    rw [HX.out]
    cases hb : G
    · have h1 : r.isEmpty = true := by rw [hb] at hGr; simpa using hGr.symm
      rw [List.isEmpty_iff.1 h1]; rfl
    · exact hr.symm
  have hrl : r.length ≤ n := by
    have := flat_snoc E k r hri
    have h3 := flat_le E (k + 1)
    rw [this, List.length_append] at h3
    omega
  have HRI := Lib.hid hri
  rw [← hm] at HR0
  rw [hXr]
  clear hXr HX HG hr hri hfl hpn hE2 hm
  by_cases h0 : r = []
  · subst h0
    have HG0 : Hid (G = false) := hGr
    clear hGr
    go_enter Try.func22, Try.ntmps22
    go_wp2_with fail
    refine HR0.out.mono ?_
    rintro e w1 ⟨v1, cells, rfl, ho, hr, hb⟩
    replace hr := hr.below hb
    obtain ⟨a1, c1, rfl⟩ := ho.form
    obtain ⟨b3, o3, av, cv, r3, ha3, hri3, hc, hsl⟩ := row_at ho.sl hr k hk
    rw [HRI.out] at hri3
    cases hri3
    cases ha3
    rw [List.length_nil] at hc
    go_wp2_with fail
    go_ret2
    rw [HG0.out]
    exact ⟨_, rfl, Own.nil _ _ _, hb⟩
  · have HG1 : Hid (G = true) := by show _ = _; rw [hGr]; simpa using h0
    have hpos : 0 < r.length := List.length_pos_iff.2 h0
    obtain ⟨q, hq⟩ : ∃ q, q = r.length := ⟨_, rfl⟩
    rw [← hq] at hrl hpos
    rw [← hq]
    have hq0 : ((q : Int) == 0) = false := by rw [beq_eq_false_iff_ne]; omega
    have HQ := Lib.hid hq
    clear hGr hq
    go_enter Try.func22, Try.ntmps22
    go_wp2_with fail
    refine HR0.out.mono ?_
    rintro e w1 ⟨v1, cells, rfl, ho, hr, hb⟩
    replace hr := hr.below hb
    obtain ⟨a1, c1, rfl⟩ := ho.form
    obtain ⟨b3, o3, av, cv, r3, ha3, hri3, hc, hsl⟩ := row_at ho.sl hr k hk
    rw [HRI.out] at hri3
    cases hri3
    cases ha3
    rw [← HQ.out] at hc hsl
    go_wp2_with fail
    refine (clone_any av q cv r w1 hsl (by omega)).mono ?_
    rintro e w2 ⟨v2, rfl, ho2, hb2⟩
    go_wp2_with fail
    go_ret2
    rw [HG1.out]
    exact ⟨_, rfl, ho2.mono hb.size, hb.trans (hb2.mono hb.size)⟩

def dropRows (l : List (List UInt8)) (k : Nat) : List (List UInt8) := l.set k []
def dropQ (p : List UInt8) (slot : Int) : List UInt8 := if getIs p slot then writeL (dropRows (readL p) slot.toNat) else []
theorem set_flat (l : List (List UInt8)) (k : Nat) (r : List UInt8) : (l.set k r).flatten.length ≤ l.flatten.length + r.length := by
  induction l generalizing k with
  | nil => simp
  | cons x l ih =>
    cases k with
    | zero => simp; omega
    | succ k => have := ih k; simp only [List.set_cons_succ, List.flatten_cons, List.length_append] at *; omega
set_option maxHeartbeats 800000 in
theorem drop_any (a : Option Addr) (n c : Nat) (p : List UInt8) (w : World) (slot : Int) (hp : Sl w 1 (.slice a n c) n (bvs p)) (hsz : n ≤ 1048576) :
    Calls Try.prog 16 #[.slice a n c, .int .i64 slot] w fun e w' => ∃ v, e = .returned (.tuple #[v, .bool (getIs p slot)]) ∧ Own w' w.heap.size 1 v (dropQ p slot).length (bvs (dropQ p slot)) ∧ Below w.heap.size w w' := by
  have hfl := readL_flat p
  have hpn := hp.len.1
  obtain ⟨X, hX⟩ : ∃ X, X = dropQ p slot := ⟨_, rfl⟩
  rw [← hX]
  cases hG : getIs p slot with
  | false =>
    have HX : Hid (X = []) := by show _ = _; rw [hX, dropQ, hG]; rfl
    have HG := Lib.hid hG
    clear hX hG hpn hfl
    go_enter Try.func16, Try.ntmps16
    go_wp2_with fail
    refine (get_any a n c p w slot hp hsz).mono ?_
    rintro e w1 ⟨v1, rfl, ho, hb⟩
    rw [HG.out]
    obtain ⟨a1, c1, rfl⟩ := ho.form
    go_wp2_with fail
    go_ret2
    rw [HX.out]
    exact ⟨_, rfl, Own.nil _ _ _, hb⟩
  | true =>
    obtain ⟨E, hE⟩ : ∃ E, E = readL p := ⟨_, rfl⟩
    have hE2 : E.length ≤ 255 := by rw [hE]; exact readL_len p
    have HX : Hid (X = writeL (dropRows E slot.toNat)) := by show _ = _; rw [hX, dropQ, hG, hE]; rfl
    have hs := hG
    simp only [getIs, Bool.and_eq_true, decide_eq_true_eq, ← hE] at hs
    obtain ⟨k, rfl⟩ : ∃ k : Nat, slot = k := ⟨slot.toNat, by omega⟩
    have hk : k < E.length := by omega
    have HE := Lib.hid hE
    have HG := Lib.hid hG
    rw [← hE] at hfl
    have hpn2 : p.length ≤ 1048576 := by omega
    obtain ⟨m, hm⟩ : ∃ m, m = E.length := ⟨_, rfl⟩
    have hkm : k < m := by omega
    have hkm' : (k : Int) < m := by omega
    have HM := Lib.hid hm
    rw [← hm] at hE2
    clear hX hG hs hE hpn hk hm
    go_enter Try.func16, Try.ntmps16
    go_wp2_with fail
    refine (get_any a n c p w k hp hsz).mono ?_
    rintro e w1 ⟨v1, rfl, ho, hb⟩
    rw [HG.out]
    obtain ⟨a1, c1, rfl⟩ := ho.form
    clear ho
    go_wp2_with fail
    refine (read_any a n c p w1 (hp.below hb) hsz).mono ?_
    rintro e w2 ⟨v2, cells, rfl, ho, hr, hb2⟩
    rw [← HE.out] at ho hr
    rw [← HM.out] at ho
    obtain ⟨g, off, cap, rfl, hg1, hg2, hg3, hg4, hg5⟩ := ho.open (by omega) (by decide)
    have hlen : cells.length = m := by rw [hg5, Nat.mul_one]
    obtain ⟨u, hu⟩ : ∃ u, w2.cell? ⟨g, off + k, none⟩ = some u := ⟨_, (ho.get k (by omega)).trans (List.getElem?_eq_getElem (by omega))⟩
    have hf := ho.free k (by omega)
    have hB2 := hb.trans (hb2.mono hb.size)
    have HM2 := Lib.hid hlen
    clear hg5 hlen
    go_wp2_with fail
    have hb3 : Below w1.heap.size w1 (w2.setCell ⟨g, off + k, none⟩ (.slice none 0 0)) := hb2.setCell (p := ⟨g, off + k, none⟩) hg1 _
    have hr3 : RowsOf (w2.setCell ⟨g, off + k, none⟩ (.slice none 0 0)) (cells.set k (.slice none 0 0)) (dropRows E k) := by
      exact (hr.below hb3).set k rfl (Sl.nil _ _)
    have ho3 := ho.set k (.slice none 0 0)
    refine (write_any _ m cap (cells.set k (.slice none 0 0)) (dropRows E k) _ ho3.sl hr3 (by have := set_flat E k []; simp only [List.length_nil] at this; unfold dropRows; omega) (by omega)).mono ?_
    rintro e w4 ⟨v4, rfl, ho4, hb4⟩
    go_wp2_with fail
    go_ret2
    rw [HX.out]
    have hB3 := hb.trans (hb3.mono hb.size)
    exact ⟨_, rfl, ho4.mono hB3.size, hB3.trans (hb4.mono hB3.size)⟩

theorem own_last {w : World} {base k g off cap : Nat} {cells : List Value} {x : Value} (h : Own w base 1 (.slice (some ⟨g, off, none⟩) (k + 1) cap) (k + 1) (cells ++ [x])) : w.cell? ⟨g, off + k, none⟩ = some x ∧ w.frozen? ⟨g, off + k, none⟩ = false := by
  have hl := h.1
  simp only [List.length_append, List.length_singleton] at hl
  have h1 := h.get k (by simp; omega)
  rw [List.getElem?_append_right (by omega), show k - cells.length = 0 by omega] at h1
  exact ⟨h1, h.free k (by simp; omega)⟩
def putRows (l : List (List UInt8)) (r : List UInt8) : List (List UInt8) := if freeL l = l.length then l ++ [r] else l.set (freeL l) r
def putIs (p r : List UInt8) : Bool := decide (0 < r.length) && decide ((r.length : Int) ≤ roomN p)
def putQ (p r : List UInt8) : List UInt8 := if putIs p r then writeL (putRows (readL p) r) else []
def putS (p r : List UInt8) : Int := if putIs p r then (freeL (readL p) : Int) else 0
set_option maxHeartbeats 1600000 in
theorem put_any (a : Option Addr) (n c : Nat) (p : List UInt8) (a2 : Option Addr) (m c2 : Nat) (r : List UInt8) (w : World) (hp : Sl w 1 (.slice a n c) n (bvs p)) (hsz : n ≤ 1048576) (hr2 : Sl w 1 (.slice a2 m c2) m (bvs r)) (hsz2 : m ≤ 1048576) :
    Calls Try.prog 11 #[.slice a n c, .slice a2 m c2] w fun e w' => ∃ v, e = .returned (.tuple #[v, .int .i64 (putS p r), .bool (putIs p r)]) ∧ Own w' w.heap.size 1 v (putQ p r).length (bvs (putQ p r)) ∧ Below w.heap.size w w' := by
  have hfl := readL_flat p
  have hpn := hp.len.1
  have hrm := hr2.len.1
  obtain ⟨X, hX⟩ : ∃ X, X = putQ p r := ⟨_, rfl⟩
  obtain ⟨Z, hZ⟩ : ∃ Z, Z = putS p r := ⟨_, rfl⟩
  rw [← hX, ← hZ]
  by_cases hm0 : m = 0
  · subst hm0
    have hG : putIs p r = false := by rw [putIs, hrm]; rfl
    have HX : Hid (X = [] ∧ Z = 0) := by show _ ∧ _; rw [hX, hZ, putQ, putS, hG]; exact ⟨rfl, rfl⟩
    have HG := Lib.hid hG
    clear hX hZ hG hpn hfl hrm
    go_enter Try.func11, Try.ntmps11
    go_wp2_with fail
    go_ret3
    rw [HX.out.1, HX.out.2, HG.out]
    exact ⟨_, rfl, Own.nil _ _ _, Below.refl _ _⟩
  have hm1 : ((m : Int) == 0) = false := by rw [beq_eq_false_iff_ne]; omega
  obtain ⟨N, hN⟩ : ∃ N, N = roomN p := ⟨_, rfl⟩
  have HN := Lib.hid hN
  by_cases hroom : N < (m : Int)
  · have hG : putIs p r = false := by rw [putIs, ← hN, hrm, decide_eq_false (by omega : ¬ (m : Int) ≤ N), Bool.and_false]
    have HX : Hid (X = [] ∧ Z = 0) := by show _ ∧ _; rw [hX, hZ, putQ, putS, hG]; exact ⟨rfl, rfl⟩
    have HG := Lib.hid hG
    clear hX hZ hG hpn hfl hrm hN
    go_enter Try.func11, Try.ntmps11
    go_wp2_with fail
    refine (room_any a n c p w hp hsz).mono ?_
    rintro e w1 ⟨rfl, hb⟩
    rw [← HN.out]
    go_wp2_with fail
    go_ret3
    rw [HX.out.1, HX.out.2, HG.out]
    exact ⟨_, rfl, Own.nil _ _ _, hb⟩
  have hG : putIs p r = true := by rw [putIs, ← hN, hrm, decide_eq_true (by omega : 0 < m), decide_eq_true (by omega : (m : Int) ≤ N)]; rfl
  obtain ⟨E, hE⟩ : ∃ E, E = readL p := ⟨_, rfl⟩
  have hE2 : E.length ≤ 255 := by rw [hE]; exact readL_len p
  obtain ⟨f, hf⟩ : ∃ f, f = freeL E := ⟨_, rfl⟩
  have hfle : f ≤ E.length := by rw [hf]; exact List.findIdx_le_length
  have HX : Hid (X = writeL (putRows E r) ∧ Z = f) := by show _ ∧ _; rw [hX, hZ, putQ, putS, hG, hf, hE]; exact ⟨rfl, rfl⟩
  have HE := Lib.hid hE
  have HG := Lib.hid hG
  have HF := Lib.hid hf
  rw [← hE] at hfl
  have hpn2 : p.length ≤ 1048576 := by omega
  have hnr : r.length ≤ 1048576 := by omega
  obtain ⟨k, hk⟩ : ∃ k, k = E.length := ⟨_, rfl⟩
  rw [← hk] at hfle hE2
  have HK := Lib.hid hk
  have HRM := Lib.hid hrm
  have hroom' : ¬ N < (m : Int) := hroom
  clear hX hZ hG hE hf hk hN hrm hpn
  by_cases hfk : f = k
  · have HPR : Hid (putRows E r = E ++ [r]) := by show _ = _; rw [putRows, if_pos (by rw [← HF.out, ← HK.out]; exact hfk)]
    obtain rfl := hfk
    go_enter Try.func11, Try.ntmps11
    go_wp2_with fail
    refine (room_any a n c p w hp hsz).mono ?_
    rintro e w1 ⟨rfl, hb⟩
    rw [← HN.out]
    go_wp2_with fail
    refine (read_any a n c p w1 (hp.below hb) hsz).mono ?_
    rintro e w2 ⟨v2, cells, rfl, ho, hr, hb2⟩
    rw [← HE.out] at ho hr
    rw [← HK.out] at ho
    obtain ⟨a3, c3, rfl⟩ := ho.form
    have hB2 := hb.trans (hb2.mono hb.size)
    go_wp2_with fail
    refine (free_any a3 f c3 cells E w2 ho.sl (hr.below hb2)).mono ?_
    rintro e w3 ⟨rfl, rfl⟩
    rw [← HF.out]
    have ho3 := ho.alloc (.cells #[.slice none 0 0] 22)
    have hs3 := Sl.one w2 (.slice none 0 0) 22
    have hb3 := hb2.alloc hb2.size (.cells #[.slice none 0 0] 22)
    go_wp2_with (at_builtin; refine wpL_append etBB rfl _ _ rfl ho3 rfl hs3 rfl (by simp [Value.oneCell']) (by omega) (by simp [maxLen]; omega) hb3.size ?_; intro v4 w4 ho4 hg4; have hb4 := below_own hb3 ho3 hg4 (Nat.le_refl _) hb3.size; obtain ⟨g, off, cap, rfl, hg1, hg2, hg3, hg5, hg6⟩ := ho4.open (by omega) (by decide); obtain ⟨hq, hq2⟩ := own_last ho4; clear hg6 hg4)
    have hb5 : Below w1.heap.size w1 (w4.setCell ⟨g, off + f, none⟩ (.slice a2 m c2)) := hb4.setCell (p := ⟨g, off + f, none⟩) hg1 _
    have ho5 := ho4.set f (.slice a2 m c2)
    have hrr : RowsOf (w4.setCell ⟨g, off + f, none⟩ (.slice a2 m c2)) ((cells ++ [Value.slice none 0 0]).set f (.slice a2 m c2)) (putRows E r) := by
      rw [HPR.out]
      have hc := hr.1
      rw [← HK.out] at hc
      rw [List.set_append_right _ _ (by omega), hc, Nat.sub_self, List.set_cons_zero]
      exact (hr.below hb5).snoc HRM.out.symm ((hr2.below hb).below hb5)
    refine (write_any _ (f + 1) cap _ (putRows E r) _ ho5.sl hrr (by have e : [r].flatten.length = r.length := (by simp); rw [HPR.out, List.flatten_append, List.length_append, e]; omega) (by omega)).mono ?_
    rintro e w6 ⟨v6, rfl, ho6, hb6⟩
    go_wp2_with fail
    go_ret3
    rw [HX.out.1, HX.out.2, HG.out]
    have hB5 := hb.trans (hb5.mono hb.size)
    exact ⟨_, rfl, ho6.mono hB5.size, hB5.trans (hb6.mono hB5.size)⟩
  · have HPR : Hid (putRows E r = E.set f r) := by show _ = _; rw [putRows, if_neg (by rw [← HF.out, ← HK.out]; exact hfk), HF.out]
    have hfk1 : f < k := by omega
    have hfk2 : ((f : Int) == (k : Int)) = false := by rw [beq_eq_false_iff_ne]; omega
    have hfk3 : (f : Int) < k := by omega
    go_enter Try.func11, Try.ntmps11
    go_wp2_with fail
    refine (room_any a n c p w hp hsz).mono ?_
    rintro e w1 ⟨rfl, hb⟩
    rw [← HN.out]
    go_wp2_with fail
    refine (read_any a n c p w1 (hp.below hb) hsz).mono ?_
    rintro e w2 ⟨v2, cells, rfl, ho, hr, hb2⟩
    rw [← HE.out] at ho hr
    rw [← HK.out] at ho
    obtain ⟨g, off, cap, rfl, hg1, hg2, hg3, hg4, hg5⟩ := ho.open (by omega) (by decide)
    go_wp2_with fail
    refine (free_any _ k cap cells E w2 ho.sl (hr.below hb2)).mono ?_
    rintro e w3 ⟨rfl, rfl⟩
    rw [← HF.out]
    obtain ⟨u, hu⟩ : ∃ u, w2.cell? ⟨g, off + f, none⟩ = some u := ⟨_, (ho.get f (by omega)).trans (List.getElem?_eq_getElem (by omega))⟩
    have hf2 := ho.free f (by omega)
    have HQ := Lib.hid hg5
    clear hg5
    go_wp2_with fail
    have hb5 : Below w1.heap.size w1 (w2.setCell ⟨g, off + f, none⟩ (.slice a2 m c2)) := hb2.setCell (p := ⟨g, off + f, none⟩) hg1 _
    have ho5 := ho.set f (.slice a2 m c2)
    have hrr : RowsOf (w2.setCell ⟨g, off + f, none⟩ (.slice a2 m c2)) (cells.set f (.slice a2 m c2)) (putRows E r) := by
      rw [HPR.out]
      exact (hr.below hb5).set f HRM.out.symm ((hr2.below hb).below hb5)
    refine (write_any _ k cap _ (putRows E r) _ ho5.sl hrr (by rw [HPR.out]; have := set_flat E f r; omega) (by omega)).mono ?_
    rintro e w6 ⟨v6, rfl, ho6, hb6⟩
    go_wp2_with fail
    go_ret3
    rw [HX.out.1, HX.out.2, HG.out]
    have hB5 := hb.trans (hb5.mono hb.size)
    exact ⟨_, rfl, ho6.mono hB5.size, hB5.trans (hb6.mono hB5.size)⟩
end Go.Proofs.Ytafigfgcgnnbnaa
