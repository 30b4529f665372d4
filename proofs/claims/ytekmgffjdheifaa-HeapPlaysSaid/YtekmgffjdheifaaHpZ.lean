/-
  Law 24's 'played', walked; what oids lead to at a heap at which things were done. Conditions: the things to do read, and are few.
-/
import Derived.Test.YtekmgffjdheifaaHpY
namespace Go.Proofs.Ytekmgffjdheifaa
open Go Go.RowKit
set_option linter.unusedVariables false
set_option linter.unusedSimpArgs false
set_option maxRecDepth 100000

section
variable {m b : Nat} {w0 : World} {H : List Th} {n : Nat} {col : Nat → Nat} {w : World}
theorem plz_oid (h : Pl m b w0 H n col w) (k : Int) (hk : (Lit.int .i64 k).wf = true) (x : Int) (hx : Hid (x = (thAt H k).oid)) :
    Calls Try.prog 20 #[.pointer (some ⟨b, 0, none⟩), .int .i64 k] w fun e w' => e = .returned (.tuple #[.int .i64 x, .bool (decide (0 < x))]) ∧ Below w.heap.size w w' := by
  obtain ⟨bm, bt, ks, at_, ts, tf, hH⟩ := h.A
  exact oid_p hH h.L.good k hk x hx
theorem plz_of (h : Pl m b w0 H n col w) (x : Int) (hk : (Lit.int .i64 x).wf = true) (k : Int) (hx : Hid (k = ofH H x)) :
    Calls Try.prog 32 #[.pointer (some ⟨b, 0, none⟩), .int .i64 x] w fun e w' => e = .returned (.tuple #[.int .i64 k, .bool (decide (0 < k))]) ∧ w = w' := by
  obtain ⟨bm, bt, ks, at_, ts, tf, hH⟩ := h.A
  exact of_p hH x hk k hx
theorem plz_oids (h : Pl m b w0 H n col w) (N : Nat) (hN : Hid (N = (oidsL H).length)) :
    Calls Try.prog 33 #[.pointer (some ⟨b, 0, none⟩)] w fun e w' => ∃ a c, e = .returned (.slice a N c) ∧ Hid (Own w' w.heap.size 1 (.slice a N c) N (ints (oidsL H))) ∧ Below w.heap.size w w' := by
  obtain ⟨bm, bt, ks, at_, ts, tf, hH⟩ := h.A
  refine (oids_p hH h.L.good).mono ?_
  rintro e w' ⟨v, rfl, ho, hb⟩
  rw [← hN.out] at ho
  obtain ⟨a, c, rfl⟩ := ho.form
  exact ⟨a, c, rfl, Lib.hid ho, hb⟩
theorem plz_dirty (h : Pl m b w0 H n col w) (hn : n ≤ 1000000) (N : Nat) (hN : Hid (N = (dirtyL H).length)) :
    Calls Try.prog 22 #[.pointer (some ⟨b, 0, none⟩)] w fun e w' => ∃ a c, e = .returned (.slice a N c) ∧ Hid (Own w' w.heap.size 1 (.slice a N c) N (ints (dirtyL H))) ∧ Below w.heap.size w w' := by
  obtain ⟨bm, bt, ks, at_, ts, tf, hH⟩ := h.A
  refine (dirty_p hH h.L.good (Nat.le_trans h.L.len hn) _ (Lib.hid rfl) N hN).mono ?_
  rintro e w' ⟨a, c, rfl, ho, hb⟩
  exact ⟨a, c, rfl, Lib.hid ho, hb⟩
end
def PyR (b : Nat) (w0 : World) (n : Nat) (v6 v7 : Value) (w : World) : Prop :=
  ∃ (i k : Nat) (H : List Th) (col : Nat → Nat), i ≤ n ∧ k ≤ i ∧ v7 = .int .i64 (i : Nat) ∧ v6 = .int .i64 (k : Nat) ∧ Hid (Pl 1048576 b w0 H (i + 1) col w ∧ H.length = k + 1)
theorem PyR.mk {b : Nat} {w0 : World} {n : Nat} {v6 v7 : Value} {w : World} (i k : Nat) (H : List Th) (col : Nat → Nat) (h1 : i ≤ n) (h2 : k ≤ i) (h3 : v7 = .int .i64 (i : Nat)) (h4 : v6 = .int .i64 (k : Nat)) (h5 : Pl 1048576 b w0 H (i + 1) col w ∧ H.length = k + 1) : PyR b w0 n v6 v7 w := ⟨i, k, H, col, h1, h2, h3, h4, Lib.hid h5⟩
set_option maxHeartbeats 4000000 in
theorem played_any (a : Option Addr) (n c : Nat) (L : List Opn) (w0 w : World) (h : OpsIn w0 a n c L) (hb0 : Below w0.heap.size w0 w) (hF : Few L) :
    Calls Try.prog 26 #[.slice a n c] w fun e w' => ∃ b k, e = .returned (.tuple #[.pointer (some ⟨b, 0, none⟩), .int .i64 (k : Nat)]) ∧ k ≤ n ∧ ∃ H col, Hid (Pl 1048576 b w0 H (n + 1) col w' ∧ H.length = k + 1) := by
  have HN := Lib.hid h.len
  have hb9 := h.bnd
  have HI := Lib.hid h
  clear h
  have HF := Lib.hid hF
  have hn1 : n ≤ 100 := by have := HF.out.1; rw [HN.out] at this; exact this
  clear hF
  go_enter Try.func26, Try.ntmps26
  go_wp2_with fail
  refine (Pl.starts (m := 1048576) (w0 := w0) (by decide) w hb0).mono ?_
  rintro e w2 ⟨b, rfl, col2, P2⟩
  clear hb0
  go_wp2_with fail
  go_loopw [6, 7] (fun v6 v7 wr => PyR b w0 n v6 v7 wr) (fun _ v7 _ => n - (intOf v7).toNat)
  case atStart => exact PyR.mk 0 0 _ _ (Nat.zero_le _) (Nat.le_refl _) rfl rfl ⟨P2.out, rfl⟩
  case round =>
    clear P2
    obtain ⟨i, k, H, col, hi, hki, rfl, rfl, P⟩ := hrel
    by_cases hin : i = n
    · subst hin
      go_wp2_with fail
      go_ret2
      exact ⟨b, k, rfl, hki, H, col, Lib.hid P.out⟩
    have hlt : i < n := by omega
    have hlt' : (i : Int) < n := by omega
    obtain ⟨b1, o1, q, aO, nO, cO, aR, nR, cR, rfl, hq, hc⟩ := ops_at HI.out i hlt
    have HC := Lib.hid hc
    have HT := Lib.hid (show totO q ≤ 16384 by rw [hq]; exact HF.out.2 i (by rw [HN.out]; exact hlt))
    clear hq hc
    have OC := Lib.hid (HC.out.below P.out.1.below)
    obtain ⟨d0, d1, d2, d3, d4, d5, d6, d7, d8, d9⟩ := OC.out.all
    go_wp2_with fail
    refine (pl_does P.out.1 (by omega) (by decide) OC.out HT.out).mono ?_
    rintro e w4 ⟨t, aT, nT, cT, rfl, Ht, col4, H4⟩
    have P4 := Lib.hid H4.out.1
    have HL4 : Hid ((doH 1048576 H q).length = k + 1 + if q.K = 0 ∧ (tell 1048576 H q).e = 0 then 1 else 0) := Lib.hid (by rw [do_more, P.out.2])
    clear P H4 OC d0 d1 d2 d3 d4 d5 d6 d7 d8 d9
    obtain ⟨o', x', n', is', E⟩ := t
    go_upto_region 9 with (refine wpL_storeRow rfl _ _ _ rfl (cs := [.int .u8 (o'.k.toNat : Int), .int .i64 o'.t, .slice aT nT cT, .string (str o'.s), .int .u8 (x'.1.toNat : Int), .int .i64 x'.2, .int .i64 n', .bool is', .int .i64 E]) rfl rfl (Row.new _ _ _) (by kernel_rfl) rfl rfl ?_; intro w5 hg5 hr5)
    have hb5 : Below w4.heap.size w4 w5 := below_grown ((Below.refl _ _).alloc (Nat.le_refl _) _) hg5 (Nat.le_refl _) (by simp)
    have P5 := Lib.hid (P4.out.down hb5)
    have f4 : w5.cell? ⟨w4.heap.size, 8, none⟩ = some (.int .i64 E) := hr5.cell 8
    have OC := Lib.hid (HC.out.below P5.out.below)
    obtain ⟨d0, d1, d2, d3, d4, d5, d6, d7, d8, d9⟩ := OC.out.all
    have HG := Lib.hid (show w4.heap.size < w5.heap.size by have := hb5.size; have := hr5.lt; omega)
    clear P4 hg5 hr5 hb5 d1 d2 d3 d4 d5 d6 d7 d8 d9
    generalize hqK : q.K = K at d0
    have HQK := Lib.hid hqK
    clear hqK
    by_cases hK : K = 0
    · subst hK
      by_cases hE : E = 0
      · subst hE
        have HE : Hid ((doH 1048576 H q).length = k + 1 + 1) := Lib.hid (by rw [HL4.out, if_pos ⟨HQK.out, by rw [← Ht.out.1]⟩])
        go_wp2_with fail
        exact ⟨PyR.mk (i + 1) (k + 1) _ col4 hlt (by omega) (by go_num) (by go_num) ⟨P5.out, HE.out⟩, by simp [intOf]; omega⟩
      · have hE1 : (E == 0) = false := by simpa using hE
        have HE : Hid ((doH 1048576 H q).length = k + 1) := Lib.hid (by rw [HL4.out, if_neg (fun h => hE (by have := Ht.out.1; rw [← this] at h; exact h.2))])
        go_wp2_with fail
        exact ⟨PyR.mk (i + 1) k _ col4 hlt (by omega) (by go_num) rfl ⟨P5.out, HE.out⟩, by simp [intOf]; omega⟩
    · have hK1 : (K == 0) = false := by simpa using hK
      have HE : Hid ((doH 1048576 H q).length = k + 1) := Lib.hid (by rw [HL4.out, if_neg (fun h => hK (by rw [← HQK.out]; exact h.1))])
      go_wp2_with fail
      exact ⟨PyR.mk (i + 1) k _ col4 hlt (by omega) (by go_num) rfl ⟨P5.out, HE.out⟩, by simp [intOf]; omega⟩
end Go.Proofs.Ytekmgffjdheifaa
