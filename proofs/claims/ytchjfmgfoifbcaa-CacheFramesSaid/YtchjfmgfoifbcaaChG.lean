/-
  The law's twin, full, same; a cache's Held and New. Conditions: the cache reads as one.
-/
import Derived.Test.YtchjfmgfoifbcaaChF
namespace Go.Proofs.Ytchjfmgfoifbcaa
open Go.RowKit
set_option linter.unusedVariables false
set_option linter.unusedSimpArgs false
set_option maxRecDepth 100000

theorem twin_any (a : Option Addr) (n c : Nat) (l : List UInt8) (w : World) (hl : Sl w 1 (.slice a n c) n (bvs l)) (hsz : n ≤ 140737488355328) :
    Calls Try.prog 19 #[.slice a n c] w fun e w' => ∃ v, e = .returned v ∧ Own w' w.heap.size 1 v n (bvs l) ∧ Below w.heap.size w w' := by
  have HL := Lib.hid hl
  clear hl
  go_enter Try.func19, Try.ntmps19
  go_wp2_with (at_builtin; refine wpL_append0 etB rfl _ _ rfl w.heap.size rfl HL.out rfl (bvs_one _) (by omega) (by simp [maxLen]; omega) (Nat.le_refl _) ?_; intro v2 w2 hown2 hb2)
  go_ret
  exact ⟨v2, rfl, hown2, hb2⟩
theorem full_any (a : Option Addr) (n c : Nat) (l : List UInt8) (w : World) (hl : Sl w 1 (.slice a n c) n (bvs l)) (hn : n ≤ 256) :
    Calls Try.prog 20 #[.slice a n c] w fun e w' => ∃ g off, e = .returned (.slice (some ⟨g, off, none⟩) 256 256) ∧ Own w' w.heap.size 1 (.slice (some ⟨g, off, none⟩) 256 256) 256 (bvs (fullB l)) ∧ Below w.heap.size w w' := by
  have HL := Lib.hid hl
  have hln := hl.len.1
  have HN := Lib.hid hln
  clear hl hln
  go_enter Try.func20, Try.ntmps20
  go_wp2_with (first | (at_make; refine wpL_make etB rfl rfl _ _ rfl 256 w.heap.size rfl rfl rfl rfl (by omega) (by simp only [maxLen]; omega) (Nat.le_refl _) ?_; rintro v2 w2 hown hb ⟨g, off, rfl, hg⟩; have HO := Lib.hid hown; have HB := Lib.hid hb; have HG := Lib.hid hg; clear hown hb hg) | (refine wpL_copy etB rfl (.tmp 5) (.tmp 6) rfl HO.out 0 rfl (HL.out.below HB.out) rfl (bvs_one _) n (Nat.min_eq_left hn) (fun _ => rfl) (by omega) ?_; intro w3 hown hb; have HO2 := Lib.hid hown; have HB2 := Lib.hid hb; clear hown hb))
  go_ret
  have h := HO2.out
  rw [full_splice HN.out hn] at h
  exact ⟨g, off, rfl, h, below_grown HB.out HB2.out HG.out HB.out.size⟩
theorem strBeq (l m : List UInt8) : ((str l).toList == (str m).toList) = decide (l = m) := by
  rw [ByteArray.toList_eq, ByteArray.toList_eq, str_toList, str_toList]
  by_cases h : l = m
  · subst h; simp
  · rw [decide_eq_false h, beq_eq_false_iff_ne]; exact h
theorem same_any (a : Option Addr) (n c : Nat) (a2 : Option Addr) (m c2 : Nat) (l s : List UInt8) (w : World) (hl : Sl w 1 (.slice a n c) n (bvs l)) (hs : Sl w 1 (.slice a2 m c2) m (bvs s)) (B : Bool) (H : Hid (B = decide (l = s))) :
    Calls Try.prog 13 #[.slice a n c, .slice a2 m c2] w fun e w' => e = .returned (.bool B) ∧ w = w' := by
  have hst : ((str l).toList == (str s).toList) = B := by rw [strBeq, H.out]
  go_enter Try.func13, Try.ntmps13
  go_wp2_with (first | (refine wpL_toString rfl 34 9 (.tmp 5) rfl Try.underlying34 Try.underlying5 Try.underlying9 hl rfl ?_) | (refine wpL_toString rfl 34 9 (.tmp 7) rfl Try.underlying34 Try.underlying5 Try.underlying9 hs rfl ?_))
  go_ret
  exact ⟨rfl, rfl⟩
/-! ### how many -/
def cnt (p : Int → Bool) (ks l : List Int) : Nat := ks.countP fun k => !decide (k ∈ l) && p k
theorem cnt_all (p : Int → Bool) (ks : List Int) : cnt p ks ks = 0 := by
  unfold cnt
  rw [List.countP_eq_zero]
  intro k hk
  simp [hk]
theorem cnt_nil (p : Int → Bool) (ks : List Int) : cnt p ks [] = ks.countP p := by
  unfold cnt
  simp
theorem cnt_step (p : Int → Bool) {l : List Int} (hl : l.Nodup) {x : Int} (hx : x ∈ l) : ∀ {ks : List Int}, ks.Nodup → x ∈ ks → cnt p ks (l.erase x) = cnt p ks l + (if p x = true then 1 else 0)
  | [], _, h => by simp at h
  | k :: ks, hk, h => by
    have hm : ∀ y, y ∈ l.erase x ↔ y ≠ x ∧ y ∈ l := fun y => List.Nodup.mem_erase_iff hl
    obtain ⟨h1, h2⟩ := List.nodup_cons.1 hk
    have hcons : ∀ m, cnt p (k :: ks) m = cnt p ks m + (if (!decide (k ∈ m) && p k) = true then 1 else 0) := fun m => by unfold cnt; rw [List.countP_cons]
    rw [hcons, hcons]
    by_cases hkx : k = x
    · subst hkx
      have e : cnt p ks (l.erase k) = cnt p ks l := by
        unfold cnt
        apply List.countP_congr
        intro y hy
        have : y ≠ k := fun e => h1 (by rw [← e]; exact hy)
        simp [hm, this]
      rw [e]
      simp [hm, hx]
    · have := cnt_step p hl hx h2 ((List.mem_cons.1 h).resolve_left (fun e => hkx e.symm))
      rw [this]
      simp only [hm, ne_eq, hkx, not_false_eq_true, true_and]
      omega
theorem cnt_le (p : Int → Bool) (ks l : List Int) : cnt p ks l ≤ ks.length := List.countP_le_length
def dirtyB (C : Ch) (k : Int) : Bool := (C.F k).dirty
def pinB (C : Ch) (k : Int) : Bool := decide (0 < (C.F k).pins)
set_option maxHeartbeats 2000000 in
theorem held_p (c : Nat) (col : Nat → Nat) (b bd bm : Nat) (C : Ch) (at_ : Int → Option Nat) (w : World) (h : CkIn c col w b C bd bm at_) (hfew : C.ks.length ≤ 4096) :
    Calls Try.prog 17 #[.pointer (some ⟨b, 0, none⟩)] w fun e w' => e = .returned (.tuple #[.int .i64 (C.ks.length : Nat), .int .i64 (C.ks.countP (dirtyB C) : Nat), .int .i64 (C.ks.countP (pinB C) : Nat)]) ∧ Below w.heap.size w w' := by
  have H := Lib.hid h
  have c3 := h.c3
  have hmp := h.mp
  clear h
  obtain ⟨r, hr⟩ : ∃ r, r = w.heap.size := ⟨_, rfl⟩
  go_enter Try.func17, Try.ntmps17
  go_wp2_with (at_range; refine wpL_range hmp keyInt mapT rfl _ rfl rfl ?_; intro w0 hrg0 hg0 hs0; rw [← hr] at hrg0 ⊢; have HRG := Lib.hid hrg0; have HG0 := Lib.hid hg0; clear hrg0 hg0 hs0 hmp c3)
  go_frame
  have hB0 : Below w.heap.size w w0 := ⟨HG0.out.os, HG0.out.tape, HG0.out.output, HG0.out.size, fun j hj => HG0.out.block j hj (by simp)⟩
  have hrw : w.heap.size ≤ r := by rw [hr]; exact Nat.le_refl _
  clear hr
  go_loopw [3, 4] (fun v3 v4 wr => ∃ l, v3 = .int .i64 (cnt (dirtyB C) C.ks l : Nat) ∧ v4 = .int .i64 (cnt (pinB C) C.ks l : Nat) ∧ Hid (RangeIs ptrE Try.prog 3 wr bm r C.ks at_ l) ∧ Below w.heap.size w wr) (fun _ _ wr => wr.rangeLeft bm r)
  case atStart => exact ⟨C.ks, by rw [cnt_all]; rfl, by rw [cnt_all]; rfl, HRG, hB0⟩
  case round =>
    obtain ⟨l, rfl, rfl, HRG, hb⟩ := hrel
    have hrg := HRG.out
    have k1 : St (fun _ => False) col w col wr := St.fresh hb _ _
    have HC := Lib.hid (H.out.st k1 (fun h => h) (fun h => h))
    clear k1
    go_wp2_with (at_next; refine wpL_next hrg keyInt rfl _ rfl rfl ?_ ?_)
    · intro hl
      subst hl
      clear hrg
      have c3 := HC.out.c3
      have hmp := HC.out.mp
      rw [cnt_nil, cnt_nil]
      go_wp2_with (at_len; refine wpL_len hmp mapT rfl _ rfl rfl ?_)
      refine bodyPost_ret (results_tmp3 rfl _ _ _) rfl ?_
      exact ⟨rfl, hb⟩
    · intro x w2 hxl hxk hwx hrg2 hlt2 hg2 hs2 hen
      have hrlt : r < wr.heap.size := by
        obtain ⟨D, left, cnt, h1, _⟩ := hrg
        exact h1.lt
      have hb2 : Below w.heap.size w w2 := ⟨hg2.os.trans hb.os, hg2.tape.trans hb.tape, hg2.output.trans hb.output, Nat.le_trans hb.size hg2.size, fun j hj => (hg2.block j (Nat.lt_of_lt_of_le hj hb.size) (by simp; omega)).trans (hb.block j hj)⟩
      have hnd := rangeNodup hrg
      clear hs2 hg2 hrg hrlt HC
      have k2 : St (fun _ => False) col w col w2 := St.fresh hb2 _ _
      have HC := Lib.hid (H.out.st k2 (fun h => h) (fun h => h))
      obtain ⟨g, hg, hgb, hgm, a, cc, hr, _, _⟩ := HC.out.fr x hxk
      rw [show ptrE.val (at_ x) = .pointer (some ⟨g, 0, none⟩) from ptrV_some hg] at hen ⊢
      have d2 := fr2 hr
      have d3 := fr3 hr
      have e1 := cnt_step (dirtyB C) hnd hxl H.out.mp.nodup hxk
      have e2 := cnt_step (pinB C) hnd hxl H.out.mp.nodup hxk
      have h1 := cnt_le (dirtyB C) C.ks l
      have h2 := cnt_le (pinB C) C.ks l
      have HRG2 := Lib.hid hrg2
      obtain ⟨nd, hnd1⟩ : ∃ x, x = cnt (dirtyB C) C.ks l := ⟨_, rfl⟩
      obtain ⟨np, hnp⟩ : ∃ x, x = cnt (pinB C) C.ks l := ⟨_, rfl⟩
      rw [← hnd1] at e1 h1 ⊢
      rw [← hnp] at e2 h2 ⊢
      have HM := Lib.hid hlt2
      obtain ⟨p, hp⟩ : ∃ p, p = (C.F x).pins := ⟨_, rfl⟩
      have ep : pinB C x = decide (0 < p) := by rw [hp]; rfl
      have ed : dirtyB C x = (C.F x).dirty := rfl
      rw [ep] at e2
      rw [ed] at e1
      rw [← hp] at d3
      have h3 : nd ≤ 4096 := by omega
      have h4 : np ≤ 4096 := by omega
      have E1 := Lib.hid e1
      have E2 := Lib.hid e2
      clear k2 hrg2 hlt2 hnd hnd1 hnp ep ed hp e1 e2 h1 h2 hg hgb hgm hr
      cases hd : (C.F x).dirty with
      | false =>
        rw [hd] at d2
        by_cases hp : 0 < p
        · have F1 : Hid (cnt (dirtyB C) C.ks (l.erase x) = nd) := Lib.hid (by rw [E1.out, hd]; rfl)
          have F2 : Hid (cnt (pinB C) C.ks (l.erase x) = np + 1) := Lib.hid (by rw [E2.out, decide_eq_true hp]; rfl)
          clear hd E1 E2
          go_wp2_with fail
          exact ⟨⟨l.erase x, by rw [F1.out], by rw [F2.out]; go_num, HRG2, hb2⟩, HM.out⟩
        · have F1 : Hid (cnt (dirtyB C) C.ks (l.erase x) = nd) := Lib.hid (by rw [E1.out, hd]; rfl)
          have F2 : Hid (cnt (pinB C) C.ks (l.erase x) = np) := Lib.hid (by rw [E2.out, decide_eq_false hp]; rfl)
          clear hd E1 E2
          go_wp2_with fail
          exact ⟨⟨l.erase x, by rw [F1.out], by rw [F2.out], HRG2, hb2⟩, HM.out⟩
      | true =>
        rw [hd] at d2
        by_cases hp : 0 < p
        · have F1 : Hid (cnt (dirtyB C) C.ks (l.erase x) = nd + 1) := Lib.hid (by rw [E1.out, hd]; rfl)
          have F2 : Hid (cnt (pinB C) C.ks (l.erase x) = np + 1) := Lib.hid (by rw [E2.out, decide_eq_true hp]; rfl)
          clear hd E1 E2
          go_wp2_with fail
          exact ⟨⟨l.erase x, by rw [F1.out]; go_num, by rw [F2.out]; go_num, HRG2, hb2⟩, HM.out⟩
        · have F1 : Hid (cnt (dirtyB C) C.ks (l.erase x) = nd + 1) := Lib.hid (by rw [E1.out, hd]; rfl)
          have F2 : Hid (cnt (pinB C) C.ks (l.erase x) = np) := Lib.hid (by rw [E2.out, decide_eq_false hp]; rfl)
          clear hd E1 E2
          go_wp2_with fail
          exact ⟨⟨l.erase x, by rw [F1.out]; go_num, by rw [F2.out], HRG2, hb2⟩, HM.out⟩
/-! ### a new cache -/
def newC (D : Dk) (m : Int) : Ch := ⟨D, m, 0, [], fun _ => ⟨[], 0, false, 0⟩⟩
theorem cnew_nil (m : Int) (w : World) : Calls Try.prog 11 #[.pointer none, .int .i64 m] w fun e w' => e = .returned (.tuple #[.pointer none, .int .i64 2]) ∧ w = w' := by
  go_enter Try.func11, Try.ntmps11
  go_wp2_with fail
  go_ret2
  exact ⟨rfl, rfl⟩
theorem cnew_p (c cd : Nat) (hc : c ≠ 0) (col : Nat → Nat) (bd : Nat) (D : Dk) (m : Int) (w : World) (hd : DkAt 62 cd col w bd D) (hm : 1 ≤ m ∧ m ≤ 1024) :
    Calls Try.prog 11 #[.pointer (some ⟨bd, 0, none⟩), .int .i64 m] w fun e w' => ∃ b, e = .returned (.tuple #[.pointer (some ⟨b, 0, none⟩), .int .i64 0]) ∧ ∃ col', St (fun _ => False) col w col' w' ∧ CkAt c cd col' w' b bd (newC D m) := by
  have hmm := @run_makeMap Try.prog
  have HD := Lib.hid hd
  have h1 := hm.1
  have h2 := hm.2
  clear hd hm
  go_enter Try.func11, Try.ntmps11
  go_wp2_with fail
  go_ret2
  have hb1 : Below w.heap.size w (w.alloc (.map #[] 0)) := (Below.refl _ _).alloc (Nat.le_refl _) _
  have hb : Below w.heap.size w ((w.alloc (.map #[] 0)).alloc (.cells #[.pointer (some ⟨bd, 0, none⟩), .int .i64 m, .int .i64 0, .map (some w.heap.size)] 66)) := hb1.alloc (by simp) _
  have hr : Row ((w.alloc (.map #[] 0)).alloc (.cells #[.pointer (some ⟨bd, 0, none⟩), .int .i64 m, .int .i64 0, .map (some w.heap.size)] 66)) (w.heap.size + 1) 66 [.pointer (some ⟨bd, 0, none⟩), .int .i64 m, .int .i64 0, .map (some w.heap.size)] := by
    have := Row.new (w.alloc (.map #[] 0)) [.pointer (some ⟨bd, 0, none⟩), .int .i64 m, .int .i64 0, .map (some w.heap.size)] 66
    rw [World.size_alloc] at this
    exact this
  have hmap := (MapIs.made ptrE Try.prog 3 w).below ((Below.refl _ _).alloc (Nat.le_refl _) (.cells #[.pointer (some ⟨bd, 0, none⟩), .int .i64 m, .int .i64 0, .map (some w.heap.size)] 66))
  refine ⟨w.heap.size + 1, rfl, recol col w.heap.size c, St.new hb _ _ _, w.heap.size, fun _ => none, ⟨hr, hc, recol_ge (Nat.le_succ _), recol_ge (Nat.le_refl _), hmap, by omega, fun k hk => by simp [newC] at hk, fun k hk => by simp [newC] at hk⟩, HD.out.st (St.new hb (fun _ => False) col c) (fun h => h) (fun h => h)⟩
end Go.Proofs.Ytchjfmgfoifbcaa
