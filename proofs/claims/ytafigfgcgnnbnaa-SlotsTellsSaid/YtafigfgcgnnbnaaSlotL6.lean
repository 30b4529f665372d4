/-
  SlotsPuts, SlotsDrops, SlotsTells, walked.
-/
import Derived.Test.YtafigfgcgnnbnaaSlotK
import Derived.Test.YtafigfgcgnnbnaaApartC
namespace Go.Proofs.Ytafigfgcgnnbnaa
open Go.RowKit
set_option linter.unusedVariables false
set_option linter.unusedSimpArgs false

theorem put_p (a : Option Addr) (n c : Nat) (p : List UInt8) (a2 : Option Addr) (m c2 : Nat) (r : List UInt8) (w : World) (hp : Sl w 1 (.slice a n c) n (bvs p)) (hsz : n ≤ 1048576) (hr2 : Sl w 1 (.slice a2 m c2) m (bvs r)) (hsz2 : m ≤ 1048576) (Q : List UInt8) (N : Nat) (S : Int) (B : Bool) (H : Hid (Q = putQ p r ∧ N = Q.length ∧ S = putS p r ∧ B = putIs p r)) :
    Calls Try.prog 11 #[.slice a n c, .slice a2 m c2] w fun e w' => ∃ v, e = .returned (.tuple #[v, .int .i64 S, .bool B]) ∧ Own w' w.heap.size 1 v N (bvs Q) ∧ Below w.heap.size w w' := by
  obtain ⟨rfl, rfl, rfl, rfl⟩ := H.out
  exact put_any a n c p a2 m c2 r w hp hsz hr2 hsz2
theorem rput_p (a : Option Addr) (n c : Nat) (p : List UInt8) (a2 : Option Addr) (m c2 : Nat) (r : List UInt8) (w : World) (hp : Sl w 1 (.slice a n c) n (bvs p)) (hsz : n ≤ 1048576) (hr2 : Sl w 1 (.slice a2 m c2) m (bvs r)) (hsz2 : m ≤ 1048576) (Q : List UInt8) (N : Nat) (S : Int) (B : Bool) (H : Hid (Q = putQ p r ∧ N = Q.length ∧ S = putS p r ∧ B = putIs p r)) :
    Calls Try.prog 12 #[.slice a n c, .slice a2 m c2] w fun e w' => ∃ v, e = .returned (.tuple #[v, .int .i64 S, .bool B]) ∧ Own w' w.heap.size 1 v N (bvs Q) ∧ Below w.heap.size w w' := by
  obtain ⟨rfl, rfl, rfl, rfl⟩ := H.out
  exact rput_any a n c p a2 m c2 r w hp hsz hr2 hsz2
theorem drop_p (a : Option Addr) (n c : Nat) (p : List UInt8) (w : World) (slot : Int) (hp : Sl w 1 (.slice a n c) n (bvs p)) (hsz : n ≤ 1048576) (Q : List UInt8) (N : Nat) (B : Bool) (H : Hid (Q = dropQ p slot ∧ N = Q.length ∧ B = getIs p slot)) :
    Calls Try.prog 16 #[.slice a n c, .int .i64 slot] w fun e w' => ∃ v, e = .returned (.tuple #[v, .bool B]) ∧ Own w' w.heap.size 1 v N (bvs Q) ∧ Below w.heap.size w w' := by
  obtain ⟨rfl, rfl, rfl⟩ := H.out
  exact drop_any a n c p w slot hp hsz
theorem rdrop_p (a : Option Addr) (n c : Nat) (p : List UInt8) (w : World) (slot : Int) (hp : Sl w 1 (.slice a n c) n (bvs p)) (hsz : n ≤ 1048576) (Q : List UInt8) (N : Nat) (B : Bool) (H : Hid (Q = dropQ p slot ∧ N = Q.length ∧ B = getIs p slot)) :
    Calls Try.prog 17 #[.slice a n c, .int .i64 slot] w fun e w' => ∃ v, e = .returned (.tuple #[v, .bool B]) ∧ Own w' w.heap.size 1 v N (bvs Q) ∧ Below w.heap.size w w' := by
  obtain ⟨rfl, rfl, rfl⟩ := H.out
  exact rdrop_any a n c p w slot hp hsz
theorem get_p (a : Option Addr) (n c : Nat) (p : List UInt8) (w : World) (slot : Int) (hp : Sl w 1 (.slice a n c) n (bvs p)) (hsz : n ≤ 1048576) (Q : List UInt8) (N : Nat) (B : Bool) (H : Hid (Q = getR p slot ∧ N = Q.length ∧ B = getIs p slot)) :
    Calls Try.prog 22 #[.slice a n c, .int .i64 slot] w fun e w' => ∃ v, e = .returned (.tuple #[v, .bool B]) ∧ Own w' w.heap.size 1 v N (bvs Q) ∧ Below w.heap.size w w' := by
  obtain ⟨rfl, rfl, rfl⟩ := H.out
  exact get_any a n c p w slot hp hsz
theorem rget_p (a : Option Addr) (n c : Nat) (p : List UInt8) (w : World) (slot : Int) (hp : Sl w 1 (.slice a n c) n (bvs p)) (hsz : n ≤ 1048576) (Q : List UInt8) (N : Nat) (B : Bool) (H : Hid (Q = getR p slot ∧ N = Q.length ∧ B = getIs p slot)) :
    Calls Try.prog 24 #[.slice a n c, .int .i64 slot] w fun e w' => ∃ v, e = .returned (.tuple #[v, .bool B]) ∧ Sl w' 1 v N (bvs Q) ∧ Below w.heap.size w w' := by
  obtain ⟨rfl, rfl, rfl⟩ := H.out
  exact rget_any a n c p w slot hp hsz
theorem eqb_true (a : Option Addr) (n c : Nat) (a2 : Option Addr) (m c2 : Nat) (l : List UInt8) (w : World) (hl : Sl w 1 (.slice a n c) n (bvs l)) (hs : Sl w 1 (.slice a2 m c2) m (bvs l)) (hsz : n ≤ 140737488355328) (hsz2 : m ≤ 140737488355328) {f : FuncId}
    (h : ∀ R : Bool, R = decide (l = l) → Calls Try.prog f #[.slice a n c, .slice a2 m c2] w fun e w' => e = .returned (.bool R) ∧ Below w.heap.size w w') : Calls Try.prog f #[.slice a n c, .slice a2 m c2] w fun e w' => e = .returned (.bool true) ∧ Below w.heap.size w w' := h true (by simp)
theorem room_front {w : World} {Bs g off n : Nat} {l : List UInt8} (hn : l.length = n) (h : Own w Bs 1 (.slice (some ⟨g, off, none⟩) (n + 6) (n + 6)) (n + 6) (bvs (l ++ tailL))) : Own w Bs 1 (.slice (some ⟨g, off, none⟩) n (n + 6)) n (bvs l) := by
  have h1 := h.front (m := n) (by omega)
  rw [Nat.mul_one, bvs_take, ← hn, List.take_left] at h1
  rw [← hn]; exact h1
theorem put_le (p r : List UInt8) : (putQ p r).length ≤ 248 := by
  by_cases h : putIs p r = true
  · exact put_len h
  · rw [putQ, if_neg h]; exact Nat.zero_le _
theorem drop_le (p : List UInt8) (s : Int) : (dropQ p s).length ≤ 248 := by
  by_cases h : getIs p s = true
  · exact drop_len h
  · rw [dropQ, if_neg h]; exact Nat.zero_le _

set_option maxRecDepth 100000 in
set_option maxHeartbeats 2000000 in
theorem slotsPuts_walk (a : Option Addr) (n c : Nat) (p : List UInt8) (a2 : Option Addr) (m c2 : Nat) (r : List UInt8) (w : World) (hp : Sl w 1 (.slice a n c) n (bvs p)) (hr : Sl w 1 (.slice a2 m c2) m (bvs r)) :
    Calls Try.prog 3 #[.slice a n c, .slice a2 m c2] w fun e w' => e = .returned (.bool true) ∧ Below w.heap.size w w' := by
  have hb0 := Below.refl w.heap.size w
  have hpn := hp.len
  have hrn := hr.len
  have HPN := Lib.hid hpn.1
  have HRN := Lib.hid hrn.1
  have hpn2 := hpn.2.1
  have hrn2 := hrn.2.1
  clear hpn hrn
  by_cases hbig : 1024 < n
  · have hbig' : (1024 : Int) < n := by omega
    go_enter Try.func3, Try.ntmps3
    go_wp2_with fail
    refine (works_any w).mono ?_
    rintro e wq ⟨rfl, hbq⟩
    go_wp2_with fail
    go_ret
    exact ⟨rfl, (hb0).trans (hbq.mono (hb0).size)⟩
  have hbig' : ¬ (1024 : Int) < n := by omega
  by_cases hbig2 : 1024 < m
  · have hbig2' : (1024 : Int) < m := by omega
    go_enter Try.func3, Try.ntmps3
    go_wp2_with fail
    refine (works_any w).mono ?_
    rintro e wq ⟨rfl, hbq⟩
    go_wp2_with fail
    go_ret
    exact ⟨rfl, (hb0).trans (hbq.mono (hb0).size)⟩
  have hbig2' : ¬ (1024 : Int) < m := by omega
  obtain ⟨Q, hQ⟩ : ∃ Q, Q = putQ p r := ⟨_, rfl⟩
  obtain ⟨N, hN⟩ : ∃ N, N = Q.length := ⟨_, rfl⟩
  obtain ⟨S, hS⟩ : ∃ S, S = putS p r := ⟨_, rfl⟩
  obtain ⟨B, hB⟩ : ∃ B, B = putIs p r := ⟨_, rfl⟩
  have hN9 : N ≤ 248 := by rw [hN, hQ]; exact put_le p r
  have H := Lib.hid (And.intro hQ (And.intro hN (And.intro hS hB)))
  have hSS : (S != S) = false := by simp
  have hBB : (B != B) = false := by simp
  clear hQ hN hS hB
  go_enter Try.func3, Try.ntmps3
  go_wp2_with fail
  refine (roomy_any a n c p w hp (by omega)).mono ?_
  rintro e w1 ⟨g1, o1, rfl, hi1, hb1⟩
  have hg1 : g1 < w1.heap.size := hi1.lives g1 rfl
  have hr1 := hr.below hb1
  go_wp2_with fail
  refine (roomy_any a2 m c2 r w1 hr1 (by omega)).mono ?_
  rintro e w2 ⟨g2, o2, rfl, hi2, hb2⟩
  have hB2 := hb1.trans (hb2.mono hb1.size)
  replace hi1 := hi1.below hb2
  have hf1 := room_front HPN.out hi1
  have hf2 := room_front HRN.out hi2
  go_wp2_with fail
  refine (put_p _ n (n + 6) p _ m (m + 6) r w2 hf1.sl (by omega) hf2.sl (by omega) Q N S B H).mono ?_
  rintro e w3 ⟨v3, rfl, ho3, hb3⟩
  obtain ⟨a3, c3, rfl⟩ := ho3.form
  have hB3 := hB2.trans (hb3.mono hB2.size)
  go_wp2_with fail
  refine (rput_p a n c p a2 m c2 r w3 (hp.below hB3) (by omega) (hr.below hB3) (by omega) Q N S B H).mono ?_
  rintro e w4 ⟨v4, rfl, ho4, hb4⟩
  obtain ⟨a4, c4, rfl⟩ := ho4.form
  have hB4 := hB3.trans (hb4.mono hB3.size)
  go_wp2_with fail
  refine (eqb_any a3 N c3 a4 N c4 Q Q w4 (ho3.below hb4).sl ho4.sl (by omega) (by omega)).mono ?_
  rintro e w5 ⟨rfl, hb5⟩
  rw [decide_eq_true rfl]
  have hB5 := hB4.trans (hb5.mono hB4.size)
  have hi5 := ((hi1.below hb3).below hb4).below hb5
  go_wp2_with fail
  refine (kept_any g1 o1 a n c p w5 hi5.sl (hp.below hB5) (by omega)).mono ?_
  rintro e w6 ⟨rfl, hb6⟩
  have hB6 := hB5.trans (hb6.mono hB5.size)
  have hi6 := (((hi2.below hb3).below hb4).below hb5).below hb6
  go_wp2_with fail
  refine (kept_any g2 o2 a2 m c2 r w6 hi6.sl (hr.below hB6) (by omega)).mono ?_
  rintro e w7 ⟨rfl, hb7⟩
  have hB7 := hB6.trans (hb7.mono hB6.size)
  have q1 := (((((hf1.below hb3).below hb4).below hb5).below hb6).below hb7).mono (base' := w.heap.size) (Nat.le_refl _)
  have q2 := (((((hf2.below hb3).below hb4).below hb5).below hb6).below hb7).mono (base' := w.heap.size) hb1.size
  have q3 := ((((ho3.below hb4).below hb5).below hb6).below hb7).mono (base' := w.heap.size) hB2.size
  have l1 := hf1.lives
  have l2 := hf2.lives
  have l3 := ho3.lt
  have l4 := hf2.lt
  have hap := apart3 (.slice a3 N c3) (.slice (some ⟨g1, o1, none⟩) n (n + 6)) (.slice (some ⟨g2, o2, none⟩) m (m + 6)) N n m Q p r w.heap.size w7 hB7.size q3 q1 q2 (by omega) (by omega) (by omega)
    (fun g h1 h2 => by have := l3 g h1; have := l1 g h2; omega) (fun g h1 h2 => by have := l3 g h1; have := l2 g h2; omega)
    (fun g h1 h2 => by
      simp [Value.ownBlock] at h1 h2
      have := l4 g2 rfl
      omega)
  have HAP := Lib.hid hap
  clear hap q1 q2 q3 l1 l2 l3 l4 hf1 hf2 hi1 hi2 hi5 hi6 ho3 ho4
  go_wp2_with fail
  refine HAP.out.mono ?_
  rintro e w8 ⟨rfl, hb8⟩
  have hB8 := hB7.trans hb8
  go_wp2_with fail
  refine (works_any w8).mono ?_
  rintro e wq ⟨rfl, hbq⟩
  go_wp2_with fail
  go_ret
  exact ⟨rfl, (hB8).trans (hbq.mono (hB8).size)⟩

theorem right_p (a : Option Addr) (n c : Nat) (p : List UInt8) (w : World) (hp : Sl w 1 (.slice a n c) n (bvs p)) (hsz : n ≤ 1048576) (B : Bool) (H : Hid (B = readOk p)) :
    Calls Try.prog 23 #[.slice a n c] w fun e w' => e = .returned (.bool B) ∧ Below w.heap.size w w' := by
  obtain rfl := H.out
  exact right_any a n c p w hp hsz
theorem rright_p (a : Option Addr) (n c : Nat) (p : List UInt8) (w : World) (hp : Sl w 1 (.slice a n c) n (bvs p)) (hsz : n ≤ 1048576) (B : Bool) (H : Hid (B = readOk p)) :
    Calls Try.prog 25 #[.slice a n c] w fun e w' => e = .returned (.bool B) ∧ Below w.heap.size w w' := by
  obtain rfl := H.out
  exact rright_any a n c p w hp hsz
theorem room_p (a : Option Addr) (n c : Nat) (p : List UInt8) (w : World) (hp : Sl w 1 (.slice a n c) n (bvs p)) (hsz : n ≤ 1048576) (R : Int) (H : Hid (R = roomN p)) :
    Calls Try.prog 20 #[.slice a n c] w fun e w' => e = .returned (.int .i64 R) ∧ Below w.heap.size w w' := by
  obtain rfl := H.out
  exact room_any a n c p w hp hsz
theorem rroom_p (a : Option Addr) (n c : Nat) (p : List UInt8) (w : World) (hp : Sl w 1 (.slice a n c) n (bvs p)) (hsz : n ≤ 1048576) (R : Int) (H : Hid (R = roomN p)) :
    Calls Try.prog 29 #[.slice a n c] w fun e w' => e = .returned (.int .i64 R) ∧ Below w.heap.size w w' := by
  obtain rfl := H.out
  exact rroom_any a n c p w hp hsz
theorem slots_p (a : Option Addr) (n c : Nat) (p : List UInt8) (w : World) (hp : Sl w 1 (.slice a n c) n (bvs p)) (hsz : n ≤ 1048576) (L : List Int) (m : Nat) (H : Hid (L = slotsL p ∧ m = L.length)) :
    Calls Try.prog 27 #[.slice a n c] w fun e w' => ∃ v, e = .returned v ∧ Own w' w.heap.size 1 v m (ints L) ∧ Below w.heap.size w w' := by
  obtain ⟨rfl, rfl⟩ := H.out
  exact slots_any a n c p w hp hsz
theorem rslots_p (a : Option Addr) (n c : Nat) (p : List UInt8) (w : World) (hp : Sl w 1 (.slice a n c) n (bvs p)) (hsz : n ≤ 1048576) (L : List Int) (m : Nat) (H : Hid (L = slotsL p ∧ m = L.length)) :
    Calls Try.prog 28 #[.slice a n c] w fun e w' => ∃ v, e = .returned v ∧ Own w' w.heap.size 1 v m (ints L) ∧ Below w.heap.size w w' := by
  obtain ⟨rfl, rfl⟩ := H.out
  exact rslots_any a n c p w hp hsz
theorem get_le {p : List UInt8} (h : p.length ≤ 1024) (s : Int) : (getR p s).length ≤ 1024 := by
  by_cases hg : getIs p s = true
  · have hk : readOk p = true := by
      cases h1 : readOk p
      · exfalso
        rw [getIs, readL_not h1] at hg
        simp at hg
      · rfl
    obtain ⟨k1, k2, k3, k4⟩ := read_parts hk
    have h2 : (readL p).getD s.toNat [] ∈ readL p := by
      rw [getIs] at hg
      simp only [Bool.and_eq_true, decide_eq_true_eq] at hg
      have h3 : s.toNat < (readL p).length := by omega
      rw [List.getD_eq_getElem?_getD, List.getElem?_eq_getElem h3]
      exact List.getElem_mem _
    have := mem_le_flat _ _ h2
    rw [getR, if_pos hg]
    omega
  · rw [getR, if_neg hg]; exact Nat.zero_le _

set_option maxRecDepth 100000 in
set_option maxHeartbeats 2000000 in
theorem slotsDrops_walk (a : Option Addr) (n c : Nat) (p : List UInt8) (slot : Int) (w : World) (hp : Sl w 1 (.slice a n c) n (bvs p)) :
    Calls Try.prog 4 #[.slice a n c, .int .i64 slot] w fun e w' => e = .returned (.bool true) ∧ Below w.heap.size w w' := by
  have hb0 := Below.refl w.heap.size w
  have hpn := hp.len
  have HPN := Lib.hid hpn.1
  have hpn2 := hpn.2.1
  clear hpn
  by_cases hbig : 1024 < n
  · have hbig' : (1024 : Int) < n := by omega
    go_enter Try.func4, Try.ntmps4
    go_wp2_with fail
    refine (works_any w).mono ?_
    rintro e wq ⟨rfl, hbq⟩
    go_wp2_with fail
    go_ret
    exact ⟨rfl, (hb0).trans (hbq.mono (hb0).size)⟩
  have hbig' : ¬ (1024 : Int) < n := by omega
  obtain ⟨Q, hQ⟩ : ∃ Q, Q = dropQ p slot := ⟨_, rfl⟩
  obtain ⟨N, hN⟩ : ∃ N, N = Q.length := ⟨_, rfl⟩
  obtain ⟨B, hB⟩ : ∃ B, B = getIs p slot := ⟨_, rfl⟩
  have hN9 : N ≤ 248 := by rw [hN, hQ]; exact drop_le p slot
  have H := Lib.hid (And.intro hQ (And.intro hN hB))
  have hBB : (B == B) = true := by simp
  clear hQ hN hB
  go_enter Try.func4, Try.ntmps4
  go_wp2_with fail
  refine (roomy_any a n c p w hp (by omega)).mono ?_
  rintro e w2 ⟨g1, o1, rfl, hi1, hB2⟩
  have hf1 := room_front HPN.out hi1
  go_wp2_with fail
  refine (drop_p _ n (n + 6) p w2 slot hf1.sl (by omega) Q N B H).mono ?_
  rintro e w3 ⟨v3, rfl, ho3, hb3⟩
  obtain ⟨a3, c3, rfl⟩ := ho3.form
  have hB3 := hB2.trans (hb3.mono hB2.size)
  go_wp2_with fail
  refine (rdrop_p a n c p w3 slot (hp.below hB3) (by omega) Q N B H).mono ?_
  rintro e w4 ⟨v4, rfl, ho4, hb4⟩
  obtain ⟨a4, c4, rfl⟩ := ho4.form
  have hB4 := hB3.trans (hb4.mono hB3.size)
  go_wp2_with fail
  refine (eqb_any a3 N c3 a4 N c4 Q Q w4 (ho3.below hb4).sl ho4.sl (by omega) (by omega)).mono ?_
  rintro e w5 ⟨rfl, hb5⟩
  rw [decide_eq_true rfl]
  have hB5 := hB4.trans (hb5.mono hB4.size)
  have hi5 := ((hi1.below hb3).below hb4).below hb5
  go_wp2_with fail
  refine (kept_any g1 o1 a n c p w5 hi5.sl (hp.below hB5) (by omega)).mono ?_
  rintro e w7 ⟨rfl, hb6⟩
  have hB7 := hB5.trans (hb6.mono hB5.size)
  have q1 := ((((hf1.below hb3).below hb4).below hb5).below hb6).mono (base' := w.heap.size) (Nat.le_refl _)
  have q3 := (((ho3.below hb4).below hb5).below hb6).mono (base' := w.heap.size) hB2.size
  have l1 := hf1.lives
  have l3 := ho3.lt
  have hap := apart2 (.slice a3 N c3) (.slice (some ⟨g1, o1, none⟩) n (n + 6)) N n Q p w.heap.size w7 hB7.size q3 q1 (by omega) (by omega)
    (fun g h1 h2 => by have := l3 g h1; have := l1 g h2; omega)
  have HAP := Lib.hid hap
  clear hap q1 q3 l1 l3 hf1 hi1 hi5 ho3 ho4
  go_wp2_with fail
  refine HAP.out.mono ?_
  rintro e w8 ⟨rfl, hb8⟩
  have hB8 := hB7.trans hb8
  go_wp2_with fail
  refine (works_any w8).mono ?_
  rintro e wq ⟨rfl, hbq⟩
  go_wp2_with fail
  go_ret
  exact ⟨rfl, (hB8).trans (hbq.mono (hB8).size)⟩

set_option maxRecDepth 100000 in
set_option maxHeartbeats 4000000 in
theorem slotsTells_walk (a : Option Addr) (n c : Nat) (p : List UInt8) (slot : Int) (w : World) (hp : Sl w 1 (.slice a n c) n (bvs p)) :
    Calls Try.prog 7 #[.slice a n c, .int .i64 slot] w fun e w' => e = .returned (.bool true) ∧ Below w.heap.size w w' := by
  have hb0 := Below.refl w.heap.size w
  have hpn := hp.len
  have HPN := Lib.hid hpn.1
  have hpn2 := hpn.2.1
  clear hpn
  by_cases hbig : 1024 < n
  · have hbig' : (1024 : Int) < n := by omega
    go_enter Try.func7, Try.ntmps7
    go_wp2_with fail
    refine (works_any w).mono ?_
    rintro e wq ⟨rfl, hbq⟩
    go_wp2_with fail
    go_ret
    exact ⟨rfl, (hb0).trans (hbq.mono (hb0).size)⟩
  have hbig' : ¬ (1024 : Int) < n := by omega
  obtain ⟨Q, hQ⟩ : ∃ Q, Q = getR p slot := ⟨_, rfl⟩
  obtain ⟨N, hN⟩ : ∃ N, N = Q.length := ⟨_, rfl⟩
  obtain ⟨B, hB⟩ : ∃ B, B = getIs p slot := ⟨_, rfl⟩
  obtain ⟨O, hO⟩ : ∃ O, O = readOk p := ⟨_, rfl⟩
  obtain ⟨R, hR⟩ : ∃ R, R = roomN p := ⟨_, rfl⟩
  obtain ⟨L, hL⟩ : ∃ L, L = slotsL p := ⟨_, rfl⟩
  obtain ⟨m, hm⟩ : ∃ m, m = L.length := ⟨_, rfl⟩
  have hN9 : N ≤ 1024 := by rw [hN, hQ]; exact get_le (by have := HPN.out; omega) slot
  have H := Lib.hid (And.intro hQ (And.intro hN hB))
  have HO := Lib.hid hO
  have HR := Lib.hid hR
  have HL := Lib.hid (And.intro hL hm)
  have hBB : (B != B) = false := by simp
  have hOO : (O != O) = false := by simp
  have hRR : (R != R) = false := by simp
  clear hQ hN hB hO hR hL hm
  go_enter Try.func7, Try.ntmps7
  go_wp2_with fail
  refine (roomy_any a n c p w hp (by omega)).mono ?_
  rintro e w2 ⟨g1, o1, rfl, hi1, hB2⟩
  have hf1 := room_front HPN.out hi1
  go_wp2_with fail
  refine (get_p _ n (n + 6) p w2 slot hf1.sl (by omega) Q N B H).mono ?_
  rintro e w3 ⟨v3, rfl, ho3, hb3⟩
  obtain ⟨a3, c3, rfl⟩ := ho3.form
  have hB3 := hB2.trans (hb3.mono hB2.size)
  have hf3 := hf1.below hb3
  have hi3 := hi1.below hb3
  have l1 := hf1.lives
  have l3 := ho3.lt
  have hd : Hid (∀ g, (Value.slice a3 N c3).ownBlock = some g → (Value.slice (some ⟨g1, o1, none⟩) n (n + 6)).ownBlock ≠ some g) := Lib.hid (fun g h1 h2 => by have := l3 g h1; have := l1 g h2; omega)
  replace ho3 := ho3.mono (base' := w.heap.size) hB2.size
  clear hf1 hi1 l1 l3
  go_wp2_with fail
  refine (rget_p a n c p w3 slot (hp.below hB3) (by omega) Q N B H).mono ?_
  rintro e w4 ⟨v4, rfl, hs4, hb4⟩
  obtain ⟨a4, c4, rfl⟩ := hs4.form
  have hB4 := hB3.trans (hb4.mono hB3.size)
  replace hf3 := hf3.below hb4
  replace hi3 := hi3.below hb4
  replace ho3 := ho3.below hb4
  go_wp2_with fail
  refine (right_p _ n (n + 6) p w4 hf3.sl (by omega) O HO).mono ?_
  rintro e w5 ⟨rfl, hb5⟩
  have hB5 := hB4.trans (hb5.mono hB4.size)
  replace hf3 := hf3.below hb5
  replace hi3 := hi3.below hb5
  replace hs4 := hs4.below hb5
  replace ho3 := ho3.below hb5
  go_wp2_with fail
  refine (rright_p a n c p w5 (hp.below hB5) (by omega) O HO).mono ?_
  rintro e w6 ⟨rfl, hb6⟩
  have hB6 := hB5.trans (hb6.mono hB5.size)
  replace hf3 := hf3.below hb6
  replace hi3 := hi3.below hb6
  replace hs4 := hs4.below hb6
  replace ho3 := ho3.below hb6
  go_wp2_with fail
  refine (slots_p _ n (n + 6) p w6 hf3.sl (by omega) L m HL).mono ?_
  rintro e w7 ⟨v7, rfl, ho7, hb7⟩
  obtain ⟨a7, c7, rfl⟩ := ho7.form
  have hB7 := hB6.trans (hb7.mono hB6.size)
  replace hf3 := hf3.below hb7
  replace hi3 := hi3.below hb7
  replace hs4 := hs4.below hb7
  replace ho3 := ho3.below hb7
  go_wp2_with fail
  refine (rslots_p a n c p w7 (hp.below hB7) (by omega) L m HL).mono ?_
  rintro e w8 ⟨v8, rfl, ho8, hb8⟩
  obtain ⟨a8, c8, rfl⟩ := ho8.form
  have hB8 := hB7.trans (hb8.mono hB7.size)
  replace hf3 := hf3.below hb8
  replace hi3 := hi3.below hb8
  replace hs4 := hs4.below hb8
  replace ho3 := ho3.below hb8
  go_wp2_with fail
  refine (same_any a7 m c7 a8 m c8 L L w8 (ho7.below hb8).sl ho8.sl).mono ?_
  rintro e w9 ⟨rfl, hb9⟩
  rw [decide_eq_true rfl]
  have hB9 := hB8.trans (hb9.mono hB8.size)
  replace hf3 := hf3.below hb9
  replace hi3 := hi3.below hb9
  replace hs4 := hs4.below hb9
  replace ho3 := ho3.below hb9
  clear ho7 ho8
  go_wp2_with fail
  refine (room_p _ n (n + 6) p w9 hf3.sl (by omega) R HR).mono ?_
  rintro e w10 ⟨rfl, hb10⟩
  have hB10 := hB9.trans (hb10.mono hB9.size)
  replace hf3 := hf3.below hb10
  replace hi3 := hi3.below hb10
  replace hs4 := hs4.below hb10
  replace ho3 := ho3.below hb10
  go_wp2_with fail
  refine (rroom_p a n c p w10 (hp.below hB10) (by omega) R HR).mono ?_
  rintro e w11 ⟨rfl, hb11⟩
  have hB11 := hB10.trans (hb11.mono hB10.size)
  replace hf3 := hf3.below hb11
  replace hi3 := hi3.below hb11
  replace hs4 := hs4.below hb11
  replace ho3 := ho3.below hb11
  go_wp2_with fail
  refine (eqb_any a3 N c3 a4 N c4 Q Q w11 ho3.sl hs4 (by omega) (by omega)).mono ?_
  rintro e w12 ⟨rfl, hb12⟩
  rw [decide_eq_true rfl]
  have hB12 := hB11.trans (hb12.mono hB11.size)
  replace hf3 := hf3.below hb12
  replace hi3 := hi3.below hb12
  replace ho3 := ho3.below hb12
  clear hs4
  go_wp2_with fail
  refine (kept_any g1 o1 a n c p w12 hi3.sl (hp.below hB12) (by omega)).mono ?_
  rintro e w13 ⟨rfl, hb13⟩
  have hB13 := hB12.trans (hb13.mono hB12.size)
  replace hf3 := hf3.below hb13
  replace ho3 := ho3.below hb13
  have hap := apart2 (.slice a3 N c3) (.slice (some ⟨g1, o1, none⟩) n (n + 6)) N n Q p w.heap.size w13 hB13.size ho3 hf3 (by omega) (by omega) hd.out
  have HAP := Lib.hid hap
  clear hap hf3 hi3 ho3
  go_wp2_with fail
  refine HAP.out.mono ?_
  rintro e w14 ⟨rfl, hb14⟩
  have hB14 := hB13.trans hb14
  go_wp2_with fail
  refine (works_any w14).mono ?_
  rintro e wq ⟨rfl, hbq⟩
  go_wp2_with fail
  go_ret
  exact ⟨rfl, (hB14).trans (hbq.mono (hB14).size)⟩

theorem slotsPuts_go (a : Option Addr) (n c : Nat) (p : List UInt8) (a2 : Option Addr) (m c2 : Nat) (r : List UInt8) (w : World) (hp : SlOf VByte 1 w (.slice a n c) p) (hr : SlOf VByte 1 w (.slice a2 m c2) r) :
    Calls Try.prog 3 #[.slice a n c, .slice a2 m c2] w fun e w' => e = .returned (.bool true) ∧ Below w.heap.size w w' := by
  obtain rfl : n = p.length := hp.len.1
  obtain rfl : m = r.length := hr.len.1
  exact slotsPuts_walk a _ c p a2 _ c2 r w hp.bytes hr.bytes
theorem slotsDrops_go (a : Option Addr) (n c : Nat) (p : List UInt8) (slot : Int) (w : World) (hp : SlOf VByte 1 w (.slice a n c) p) :
    Calls Try.prog 4 #[.slice a n c, .int .i64 slot] w fun e w' => e = .returned (.bool true) ∧ Below w.heap.size w w' := by
  obtain rfl : n = p.length := hp.len.1
  exact slotsDrops_walk a _ c p slot w hp.bytes
theorem slotsTells_go (a : Option Addr) (n c : Nat) (p : List UInt8) (slot : Int) (w : World) (hp : SlOf VByte 1 w (.slice a n c) p) :
    Calls Try.prog 7 #[.slice a n c, .int .i64 slot] w fun e w' => e = .returned (.bool true) ∧ Below w.heap.size w w' := by
  obtain rfl : n = p.length := hp.len.1
  exact slotsTells_walk a _ c p slot w hp.bytes
theorem opensB : Opens Try.prog 5 1 VByte := opens_byte Try.underlying5 (by kernel_rfl)
end Go.Proofs.Ytafigfgcgnnbnaa
