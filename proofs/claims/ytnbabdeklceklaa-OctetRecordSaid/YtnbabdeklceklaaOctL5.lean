/-
  OctetRecord, walked.
-/
import Derived.Test.YtnbabdeklceklaaOctL4
import Derived.Test.YtnbabdeklceklaaGen
import Derived.Laws.BitsAllLaws
namespace Go.Proofs.Ytnbabdeklceklaa
open Go.RowKit
set_option linter.unusedVariables false
set_option linter.unusedSimpArgs false

theorem later_cell {w : World} {b o : Nat} {v : Value} (h : w.cell? ⟨b, o, none⟩ = some v) : ∀ x : Later Rb w.drew, x.w.cell? ⟨b, o, none⟩ = some v :=
  fun x => (Below.cell (p := ⟨b, o, none⟩) x.later (lt_of_cell h)).trans h
theorem cut_h_later {w : World} {a : Option Addr} {n c m : Nat} {xs : List Value} (hs : Sl w 1 (.slice a n c) n xs) (h : m ≤ n) :
    ∃ av, Sl w 1 (.slice av m c) m (xs.take m) ∧ ∀ x : Later Rb w, (Instr.slice 22 (.slice a n c) none (some (.int .i64 (m : Int))) none).run Try.prog x.w = .ok (.slice av m c) x.w := by
  have hc := hs.cap
  have h1 := hs.cut (l := 0) (h := m) (m := c) (by omega) h (by omega) (Nat.le_refl _)
  simp only [Nat.sub_zero, List.drop_zero] at h1
  refine ⟨_, h1, fun x => ?_⟩
  have := run_cut (P := Try.prog) x.w Try.underlying22 (by kernel_rfl) a n c 0 m c none (some (.int .i64 (m : Int))) none (bounds_h _ _ _ _ _ (by omega))
  simpa using this

def szs (s : Int) : Nat := if s % 4 = 0 then 1 else if s % 4 = 1 then 2 else if s % 4 = 2 then 4 else 8
def body (l : List (Int × Int)) : List UInt8 := l.flatMap fun f => digs f.1.toNat (szs f.2)
theorem body_snoc (l : List (Int × Int)) (i : Nat) (h : i < l.length) : body (l.take (i + 1)) = body (l.take i) ++ digs l[i].1.toNat (szs l[i].2) := by
  have e := List.take_succ_eq_append_getElem h
  rw [e]; show List.flatMap _ _ = _; rw [List.flatMap_append]; rw [List.flatMap_singleton]; rfl
theorem szs_le (s : Int) : szs s ≤ 8 ∧ 0 < szs s ∧ saysB (szs s) = true := by
  unfold szs
  split
  · decide
  · split
    · decide
    · split <;> decide
theorem body_len (l : List (Int × Int)) : (body l).length ≤ 8 * l.length := by
  induction l with
  | nil => simp [body]
  | cons f l ih =>
    have := (szs_le f.2).1
    simp only [body, List.flatMap_cons, List.length_append, digs_length, List.length_cons] at *
    omega
theorem body_split (l : List (Int × Int)) (i : Nat) (h : i < l.length) : ∃ r, body l = body (l.take i) ++ (digs l[i].1.toNat (szs l[i].2) ++ r) := by
  refine ⟨body (l.drop (i + 1)), ?_⟩
  rw [← List.append_assoc, ← body_snoc l i h]
  rw [body, body, body, ← List.flatMap_append, List.take_append_drop]
theorem leN_snoc (l : List UInt8) (b : UInt8) : leN (l ++ [b]) = leN l + 256 ^ l.length * b.toNat := by
  induction l with
  | nil => simp [leN]
  | cons x l ih => simp only [List.cons_append, leN, ih, List.length_cons, Nat.pow_succ, Nat.mul_add]; rw [← Nat.mul_assoc, Nat.mul_comm 256 (256 ^ l.length)]; omega
theorem leN_digs (x k : Nat) : leN (digs x k) = x % 256 ^ k := by
  induction k with
  | zero => simp [digs, leN, Nat.mod_one]
  | succ k ih => rw [digs_succ, leN_snoc, ih, digs_length, Nat.mod_pow_succ]; simp
theorem rec_get (p d r : List UInt8) (x k : Nat) (hd : d = digs x k) (hs : saysB k = true) : getN (p ++ (d ++ r)) p.length k = x % 256 ^ k ∧ getE (p ++ (d ++ r)) p.length k = 0 := by
  have hl : d.length = k := by rw [hd, digs_length]
  have h1 : cutIs (p ++ (d ++ r)) p.length k = true := by simp [cutIs]; omega
  have h2 : cutL (p ++ (d ++ r)) p.length k = d := by
    rw [cutL, h1]; simp [← hl]
  have h3 : getIs (p ++ (d ++ r)) p.length k = true := by rw [getIs, h1, hs]; rfl
  rw [getN, getE, h3, h2, hd, leN_digs]
  exact ⟨rfl, rfl⟩

def VF : World → List Value → Int × Int → Prop := VRec2 1 1 (VInt .u64) (VInt .u8)
theorem opensF : Opens Try.prog 39 2 VF := opens_rec2 Try.underlying39 (by kernel_rfl) rfl rfl rfl rfl (opens_int Try.underlying23 (by kernel_rfl)) (opens_int Try.underlying5 (by kernel_rfl))
theorem stabF : Stab VF := stab_rec2 (stab_int _) (stab_int _)
theorem field_at {w : World} {a : Option Addr} {m c : Nat} {l : List (Int × Int)} (h : SlOf VF 2 w (.slice a m c) l) (i : Nat) (hi : i < l.length) :
    ∃ b off, ∃ x s : Nat, a = some ⟨b, off, none⟩ ∧ l[i].1 = x ∧ x < 18446744073709551616 ∧ l[i].2 = s ∧ s < 256 ∧ w.cell? ⟨b, off + i * 2, none⟩ = some (.int .u64 x) ∧ w.cell? ⟨b, off + i * 2 + 1, none⟩ = some (.int .u8 s) := by
  obtain ⟨b, off, cs, ha, hl, ⟨c0, c1, rfl, l0, l1, ⟨rfl, w0⟩, ⟨rfl, w1⟩⟩, hc⟩ := h.at i hi
  obtain ⟨x, hx, e1⟩ := nat_u64 w0
  obtain ⟨s, hs, e2⟩ := nat_u8 w1
  have h0 := hc 0 (by decide)
  have h1 := hc 1 (by decide)
  refine ⟨b, off, x, s, ha, e1, hx, e2, hs, ?_, ?_⟩
  · rw [← e1]; simpa using h0
  · rw [← e2]; simpa using h1

set_option maxRecDepth 100000 in
set_option maxHeartbeats 2000000 in
theorem record_walk (a a2 : Option Addr) (n c m c2 t : Nat) (ht : t < 65536) (l : List UInt8) (fl : List (Int × Int)) (w : World) (hl : Sl w 1 (.slice a n c) n (bvs l)) (hf : SlOf VF 2 w (.slice a2 m c2) fl) :
    Calls Try.prog 4 #[.slice a n c, .slice a2 m c2, .int .u16 t] w fun e w' => e = .returned (.bool true) ∧ Below w.heap.size w w' := by
  have hn := hl.len
  have hm := hf.len
  by_cases h1 : 1000 < n
  · have h1' : (1000 : Int) < n := by omega
    go_enter Try.func4, Try.ntmps4
    go_wp2_with fail
    refine (works_any w).mono ?_
    rintro e w1 ⟨rfl, hb⟩
    go_wp2_with fail
    go_ret
    exact ⟨rfl, hb⟩
  have h1' : ¬ (1000 : Int) < n := by omega
  by_cases h2 : 100 < m
  · have h2' : (100 : Int) < m := by omega
    go_enter Try.func4, Try.ntmps4
    go_wp2_with fail
    refine (works_any w).mono ?_
    rintro e w1 ⟨rfl, hb⟩
    go_wp2_with fail
    go_ret
    exact ⟨rfl, hb⟩
  have h2' : ¬ (100 : Int) < m := by omega
  obtain ⟨hm, hm2⟩ := hm
  subst hm
  have HN := Lib.hid hn.1
  have hB0 : Below w.heap.size w (w.alloc (.cells #[.int .i64 1, .int .i64 2, .int .i64 4, .int .i64 8] 3)) := (Below.refl _ _).alloc (Nat.le_refl _) _
  have hcz : ∀ s : Nat, (w.alloc (.cells #[.int .i64 1, .int .i64 2, .int .i64 4, .int .i64 8] 3)).cell? ⟨w.heap.size, s % 4, none⟩ = some (.int .i64 (szs s)) := by
    intro s
    rw [cell_of_row _ _ _ _ _ _ (heap_alloc_new w _)]
    have : s % 4 = 0 ∨ s % 4 = 1 ∨ s % 4 = 2 ∨ s % 4 = 3 := by omega
    rcases this with h | h | h | h
    · rw [show szs s = 1 by unfold szs; rw [if_pos (by omega)], h]; rfl
    · rw [show szs s = 2 by unfold szs; rw [if_neg (by omega), if_pos (by omega)], h]; rfl
    · rw [show szs s = 4 by unfold szs; rw [if_neg (by omega), if_neg (by omega), if_pos (by omega)], h]; rfl
    · rw [show szs s = 8 by unfold szs; rw [if_neg (by omega), if_neg (by omega), if_neg (by omega)], h]; rfl
  have HCZ := Lib.hid hcz
  clear hcz hn
  have hl0 := hl.below hB0
  go_enter Try.func4, Try.ntmps4
  go_wp2_with (at_builtin; refine wpL_append0 etB rfl _ _ rfl w.heap.size (by simp [Act.eval]) hl0 rfl (bvs_one _) (by omega) (by simp [maxLen]; omega) (by simp) ?_; intro v1 w1 ho1 hb1; obtain ⟨a1, c1, rfl⟩ := ho1.form)
  have hB1 : Below w.heap.size w w1 := hB0.trans (hb1.mono (by simp))
  have hf1 := hf.below stabF hB1
  have hl1 := hl.below hB1
  have hcz1 : Hid (∀ s : Nat, w1.cell? ⟨w.heap.size, s % 4, none⟩ = some (.int .i64 (szs s))) := fun s => (Below.cell (p := ⟨w.heap.size, s % 4, none⟩) hb1 (by simp)).trans (HCZ.out s)
  have hS1 : w.heap.size < w1.heap.size := by have := hb1.size; simp at this; omega
  clear hb1 hB0 HCZ hl0 hf hl
  replace ho1 : Own w1 w.heap.size 1 (.slice a1 n c1) n (bvs (l ++ body (fl.take 0))) := by simpa [body] using ho1
  go_wp2_with fail
  go_loopw [8, 9] (fun v8 v9 wr => ∃ i : Nat, i ≤ fl.length ∧ v9 = .int .i64 i ∧ Own wr w.heap.size 1 v8 (l ++ body (fl.take i)).length (bvs (l ++ body (fl.take i))) ∧ Below w1.heap.size w1 wr) (fun _ v9 _ => fl.length - (intOf v9).toNat)
  case atStart =>
    refine ⟨0, Nat.zero_le _, rfl, ?_, Below.refl _ _⟩
    rw [show (l ++ body (fl.take 0)).length = n by simp [body]; exact HN.out]
    exact ho1
  case round =>
    obtain ⟨i, hi, rfl, ho, hb⟩ := hrel
    obtain ⟨a8, c8, rfl⟩ := ho.form
    have hBr := hB1.trans (hb.mono (Nat.le_of_lt hS1))
    have hf2 := hf1.below stabF hb
    by_cases hi2 : i = fl.length
    · subst hi2
      rw [List.take_length] at ho
      obtain ⟨B, hB⟩ : ∃ B, B = l ++ body fl := ⟨_, rfl⟩
      rw [← hB] at ho
      have hBl : B.length ≤ 2000 := by
        have := body_len fl
        have hN := HN.out
        rw [hB]
        simp only [List.length_append] at *; omega
      obtain ⟨L, hL⟩ : ∃ L, L = B.length := ⟨_, rfl⟩
      rw [List.take_length, ← hB, ← hL]
      rw [← hL] at ho hBl
      have HL := Lib.hid hL
      have HB := Lib.hid hB
      clear hL hB
      have hnL : n ≤ L := by rw [HL.out, HB.out, List.length_append, HN.out]; omega
      go_wp2_with fail
      refine (fill_any a8 L c8 B _ t ho.sl).mono ?_
      rintro e w2 ⟨v2, rfl, ho2, hb2⟩
      obtain ⟨a9, c9, rfl⟩ := ho2.form
      replace ho := ho.below hb2
      have hB2 := hBr.trans (hb2.mono hBr.size)
      have hf3 := hf2.below stabF hb2
      have hl3 := hl1.below (hb.trans (hb2.mono hb.size))
      have hcz3 : Hid (∀ s : Nat, w2.cell? ⟨w.heap.size, s % 4, none⟩ = some (.int .i64 (szs s))) := fun s => (Below.cell (p := ⟨w.heap.size, s % 4, none⟩) (hb.trans (hb2.mono hb.size)) hS1).trans (hcz1.out s)
      cases hfit : decide (L ≤ t) with
      | true =>
        have hLt : L ≤ t := by simpa using hfit
        have e1 : fillIs B t = true := by simp [fillIs, ← HL.out]; omega
        have e2 : fillL B t = B ++ List.replicate (t - L) 0 := by rw [fillL, e1, ← HL.out]; rfl
        rw [e1]
        rw [e2] at ho2
        obtain ⟨z, hz⟩ : ∃ z, z = t - L := ⟨_, rfl⟩
        rw [← hz] at ho2
        rw [e2, ← hz]
        obtain ⟨M, hM⟩ : ∃ M, M = (B ++ List.replicate z (0 : UInt8)).length := ⟨_, rfl⟩
        rw [← hM]
        rw [← hM] at ho2
        have hML : M = L + z := by rw [hM, List.length_append, List.length_replicate, ← HL.out]
        have hzt : z ≤ 65535 := by omega
        have hLM : L ≤ M := by omega
        have HML := Lib.hid hML
        have hLt' : (L : Int) ≤ t := by omega
        have hoB : Own w2 w.heap.size 1 (.slice a9 M c9) M (bvs (B ++ List.replicate z 0)) := ho2.mono hBr.size
        clear hz hM hfit e1 e2 hML
        go_wp2_with fail
        clear ho2
        have hM2 : M ≤ 80000 := by have := HML.out; omega
        have hg0 := hoB.sl
        have hpre : Hid (∀ i (hi : i < fl.length), ∃ r, B ++ List.replicate z 0 = (l ++ body (fl.take i)) ++ (digs fl[i].1.toNat (szs fl[i].2) ++ r)) := by
          intro i hi
          obtain ⟨r, hr⟩ := body_split fl i hi
          exact ⟨r ++ List.replicate z 0, by rw [HB.out, hr]; simp⟩
        have hzero : Hid (∀ i, L ≤ i → i < M → (B ++ List.replicate z 0).getD i 0 = 0) := by
          intro i h1 h2
          have hl := HL.out
          have hml := HML.out
          rw [List.getD_eq_getElem?_getD, List.getElem?_append_right (by omega), List.getElem?_replicate, if_pos (by omega)]; rfl
        have hfront : Hid ((B ++ List.replicate z 0).take n = l) := by
          show _ = _
          have hN := HN.out
          rw [HB.out, List.append_assoc, List.take_left' hN]
        obtain ⟨BB, hBB⟩ : ∃ BB, BB = B ++ List.replicate z 0 := ⟨_, rfl⟩
        rw [← hBB] at hoB hg0 hpre hzero hfront
        clear hBB
        go_loopw [13, 14] (fun v13 v14 wr => ∃ i A : Nat, i ≤ fl.length ∧ A = n + (body (fl.take i)).length ∧ v14 = .int .i64 i ∧ v13 = .int .i64 A ∧ Below w2.heap.size w2 wr) (fun _ v14 _ => fl.length - (intOf v14).toNat)
        case atStart => exact ⟨0, n, Nat.zero_le _, by simp [body], rfl, rfl, Below.refl _ _⟩
        case round =>
          obtain ⟨i, A, hi, hA, rfl, rfl, hb3⟩ := hrel
          have hB3 := hB2.trans (hb3.mono hB2.size)
          by_cases hi3 : i = fl.length
          · subst hi3
            have hAL : A = L := by
              have hN := HN.out
              rw [hA, List.take_length, HL.out, HB.out, List.length_append, hN]
            have hLA := hAL.symm
            clear hAL
            subst hLA
            clear hA
            have hs3 := hg0.below hb3
            have hl4 := hl3.below hb3
            have hd1 : decide (M < L) = false := by simp; omega
            have hav := hs3.front (m := n) (by omega)
            have hcap := hs3.cap
            have hnc : n ≤ c9 := by omega
            rw [Nat.mul_one] at hav
            rw [bvs_take, hfront.out] at hav
            have k1 := conv_later (w := wr.drew) hav
            have k2 := conv_later (w := wr.drew) hl4
            go_wp2_with fail
            refine wp_region_lex Rb Rb_refl Rb_trans [0,0,0,0,0,0,0,0,0,0,0,0,0,0,0,0,0,0,0] (by kernel_rfl) (by kernel_rfl) ?_
            refine wpCan_seg 19 (by kernel_rfl) ?_
            simp only [List.zip_cons_cons, List.zip_nil_left, List.take_succ_cons, List.take_zero, List.drop_succ_cons, List.drop_zero, List.map_cons, List.map_nil]
            iterate 19 (go_big_quiet_step (fail))
            refine wpQuiet_nil ?_
            unfold wpCan
            clear k1 k2 hcap
            go_wp2_with fail
            go_loopw [19] (fun v19 wq => ∃ j : Nat, L ≤ j ∧ j ≤ M ∧ v19 = .int .i64 j ∧ Below wr.heap.size wr wq) (fun v19 _ => M - (intOf v19).toNat)
            case atStart => exact ⟨L, Nat.le_refl _, by omega, rfl, (Below.refl _ _).drew⟩
            case round =>
              obtain ⟨j, hj1, hj2, rfl, hb4⟩ := hrel
              by_cases hj3 : j = M
              · subst hj3
                go_wp2_with fail
                refine (works_any _).mono ?_
                rintro e w9 ⟨rfl, hb9⟩
                go_wp2_with fail
                go_ret
                have hB4 := hB3.trans (hb4.mono hB3.size)
                exact ⟨rfl, hB4.trans (hb9.mono hB4.size)⟩
              · have hj4 : (j : Int) < M := by omega
                obtain ⟨b, o, rfl, hc⟩ := (hs3.below hb4).byte (show j < M by omega)
                rw [hzero.out j hj1 (by omega)] at hc
                go_wp2_with fail
                refine ⟨⟨j + 1, by omega, by omega, by go_num, hb4⟩, by simp [intOf]; omega⟩
          · have hlt : i < fl.length := by omega
            have hlt' : (i : Int) < fl.length := by omega
            obtain ⟨b2, o2, x, s, rfl, hx, hx2, hs, hs2, hc0, hc1⟩ := field_at (hf3.below stabF hb3) i hlt
            have hz := (Below.cell (p := ⟨w.heap.size, s % 4, none⟩) hb3 (by have q1 := hb.size; have q2 := hb2.size; show w.heap.size < w2.heap.size; omega)).trans (hcz3.out s)
            obtain ⟨s4, hs4⟩ : ∃ s4 : Nat, s4 = s % 4 := ⟨_, rfl⟩
            have hs44 : s4 < 4 := by omega
            have hrem : (s : Int) % 4 = (s4 : Int) := by omega
            rw [← hs4] at hz
            obtain ⟨r, hr⟩ := hpre.out i hlt
            have hsz := szs_le s
            have hrec := rec_get (l ++ body (fl.take i)) _ r x (szs s) rfl hsz.2.2
            have hA2 : (l ++ body (fl.take i)).length = A := by rw [hA, List.length_append, HN.out]
            have hx1 : fl[i].1.toNat = x := by rw [hx]; rfl
            rw [hx1, hs] at hr
            rw [← hr, hA2] at hrec
            have HREC := Lib.hid hrec
            have hstep : Hid (A + szs s = n + (body (fl.take (i + 1))).length) := by
              show _ = _
              rw [body_snoc fl i hlt, List.length_append, hx1, hs, digs_length, hA]; omega
            have hs3 := hg0.below hb3
            have hA5 : A ≤ 80000 := by
              have h1 := body_len (fl.take i)
              simp only [List.length_take] at h1
              omega
            have hfour : szs s = 1 ∧ s4 = 0 ∨ szs s = 2 ∧ s4 = 1 ∨ szs s = 4 ∧ s4 = 2 ∨ szs s = 8 ∧ s4 = 3 := by
              unfold szs
              have : s4 = 0 ∨ s4 = 1 ∨ s4 = 2 ∨ s4 = 3 := by omega
              rcases this with h | h | h | h
              · left; rw [if_pos (by omega)]; exact ⟨rfl, h⟩
              · right; left; rw [if_neg (by omega), if_pos (by omega)]; exact ⟨rfl, h⟩
              · right; right; left; rw [if_neg (by omega), if_neg (by omega), if_pos (by omega)]; exact ⟨rfl, h⟩
              · right; right; right; rw [if_neg (by omega), if_neg (by omega), if_neg (by omega)]; exact ⟨rfl, h⟩
            have hand1 := u64_and_nat x 255 hx2 (by decide)
            have hand2 := u64_and_nat x 65535 hx2 (by decide)
            have hand4 := u64_and_nat x 4294967295 hx2 (by decide)
            rw [show (255 : Nat) = 2 ^ 8 - 1 from rfl, Nat.and_two_pow_sub_one_eq_mod] at hand1
            rw [show (65535 : Nat) = 2 ^ 16 - 1 from rfl, Nat.and_two_pow_sub_one_eq_mod] at hand2
            rw [show (4294967295 : Nat) = 2 ^ 32 - 1 from rfl, Nat.and_two_pow_sub_one_eq_mod] at hand4
            have HA1 := Lib.hid hand1
            have HA2 := Lib.hid hand2
            have HA4 := Lib.hid hand4
            clear hand1 hand2 hand4 hrec hA hA2 hx1 hx hs hs4 hr hsz
            rcases hfour with ⟨e4, rfl⟩ | ⟨e4, rfl⟩ | ⟨e4, rfl⟩ | ⟨e4, rfl⟩
            · rw [e4] at hz hstep HREC
              obtain ⟨G, hG⟩ : ∃ G, G = x % 256 ^ 1 := ⟨_, rfl⟩
              have hr1 : getN BB A 1 = G ∧ getE BB A 1 = 0 := by rw [hG]; exact HREC.out
              have hG2 : G < 18446744073709551616 := by rw [hG]; exact Nat.lt_of_le_of_lt (Nat.mod_le _ _) hx2
              have hand : bits .and .u64 (x : Int) 255 = (G : Int) := by rw [hG]; exact HA1.out
              have HR := Lib.hid hr1
              clear e4 hG hr1 HREC
              go_wp2_with fail
              refine (get_any _ M _ BB _ A 1 hs3 (by omega)).mono ?_
              rintro e w6 ⟨rfl, hb6⟩
              rw [HR.out.1, HR.out.2]
              have hq0 := (Below.cell (p := ⟨b2, o2 + i * 2, none⟩) hb6 (lt_of_cell hc0)).trans hc0
              clear hc0
              go_wp2_with fail
              have hst := hstep.out
              exact ⟨⟨i + 1, A + 1, by omega, hst, by go_num, by go_num, hb3.trans (hb6.mono hb3.size)⟩, by simp [intOf]; omega⟩
            · rw [e4] at hz hstep HREC
              obtain ⟨G, hG⟩ : ∃ G, G = x % 256 ^ 2 := ⟨_, rfl⟩
              have hr1 : getN BB A 2 = G ∧ getE BB A 2 = 0 := by rw [hG]; exact HREC.out
              have hG2 : G < 18446744073709551616 := by rw [hG]; exact Nat.lt_of_le_of_lt (Nat.mod_le _ _) hx2
              have hand : bits .and .u64 (x : Int) 65535 = (G : Int) := by rw [hG]; exact HA2.out
              have HR := Lib.hid hr1
              clear e4 hG hr1 HREC
              go_wp2_with fail
              refine (get_any _ M _ BB _ A 2 hs3 (by omega)).mono ?_
              rintro e w6 ⟨rfl, hb6⟩
              rw [HR.out.1, HR.out.2]
              have hq0 := (Below.cell (p := ⟨b2, o2 + i * 2, none⟩) hb6 (lt_of_cell hc0)).trans hc0
              clear hc0
              go_wp2_with fail
              have hst := hstep.out
              exact ⟨⟨i + 1, A + 2, by omega, hst, by go_num, by go_num, hb3.trans (hb6.mono hb3.size)⟩, by simp [intOf]; omega⟩
            · rw [e4] at hz hstep HREC
              obtain ⟨G, hG⟩ : ∃ G, G = x % 256 ^ 4 := ⟨_, rfl⟩
              have hr1 : getN BB A 4 = G ∧ getE BB A 4 = 0 := by rw [hG]; exact HREC.out
              have hG2 : G < 18446744073709551616 := by rw [hG]; exact Nat.lt_of_le_of_lt (Nat.mod_le _ _) hx2
              have hand : bits .and .u64 (x : Int) 4294967295 = (G : Int) := by rw [hG]; exact HA4.out
              have HR := Lib.hid hr1
              clear e4 hG hr1 HREC
              go_wp2_with fail
              refine (get_any _ M _ BB _ A 4 hs3 (by omega)).mono ?_
              rintro e w6 ⟨rfl, hb6⟩
              rw [HR.out.1, HR.out.2]
              have hq0 := (Below.cell (p := ⟨b2, o2 + i * 2, none⟩) hb6 (lt_of_cell hc0)).trans hc0
              clear hc0
              go_wp2_with fail
              have hst := hstep.out
              exact ⟨⟨i + 1, A + 4, by omega, hst, by go_num, by go_num, hb3.trans (hb6.mono hb3.size)⟩, by simp [intOf]; omega⟩
            · rw [e4] at hz hstep HREC
              obtain ⟨G, hG⟩ : ∃ G, G = x % 256 ^ 8 := ⟨_, rfl⟩
              have hr1 : getN BB A 8 = G ∧ getE BB A 8 = 0 := by rw [hG]; exact HREC.out
              have hG2 : G < 18446744073709551616 := by rw [hG]; exact Nat.lt_of_le_of_lt (Nat.mod_le _ _) hx2
              have hGx : G = x := by rw [hG]; exact Nat.mod_eq_of_lt hx2
              have HR := Lib.hid hr1
              subst hGx
              clear e4 hG hr1 HREC
              go_wp2_with fail
              refine (get_any _ M _ BB _ A 8 hs3 (by omega)).mono ?_
              rintro e w6 ⟨rfl, hb6⟩
              rw [HR.out.1, HR.out.2]
              have hq0 := (Below.cell (p := ⟨b2, o2 + i * 2, none⟩) hb6 (lt_of_cell hc0)).trans hc0
              clear hc0
              go_wp2_with fail
              have hst := hstep.out
              exact ⟨⟨i + 1, A + 8, by omega, hst, by go_num, by go_num, hb3.trans (hb6.mono hb3.size)⟩, by simp [intOf]; omega⟩
      | false =>
        have hLt : ¬ L ≤ t := by simpa using hfit
        have e1 : fillIs B t = false := by simp [fillIs, ← HL.out]; omega
        rw [e1]
        obtain ⟨z, hz⟩ : ∃ z, z = 0 := ⟨_, rfl⟩
        have HML : Hid (L = L + z) := by show L = L + z; omega
        have hzt : z ≤ 65535 := by omega
        have hLM : L ≤ L := Nat.le_refl _
        have hLt' : ¬ (L : Int) ≤ t := by omega
        have hoB : Own w2 w.heap.size 1 (.slice a8 L c8) L (bvs (B ++ List.replicate z 0)) := by rw [hz]; simpa using ho
        clear hfit e1 hz
        go_wp2_with fail
        clear ho2
        have hM2 : L ≤ 80000 := by have := HML.out; omega
        have hg0 := hoB.sl
        have hpre : Hid (∀ i (hi : i < fl.length), ∃ r, B ++ List.replicate z 0 = (l ++ body (fl.take i)) ++ (digs fl[i].1.toNat (szs fl[i].2) ++ r)) := by
          intro i hi
          obtain ⟨r, hr⟩ := body_split fl i hi
          exact ⟨r ++ List.replicate z 0, by rw [HB.out, hr]; simp⟩
        have hzero : Hid (∀ i, L ≤ i → i < L → (B ++ List.replicate z 0).getD i 0 = 0) := by
          intro i h1 h2
          have hl := HL.out
          have hml := HML.out
          rw [List.getD_eq_getElem?_getD, List.getElem?_append_right (by omega), List.getElem?_replicate, if_pos (by omega)]; rfl
        have hfront : Hid ((B ++ List.replicate z 0).take n = l) := by
          show _ = _
          have hN := HN.out
          rw [HB.out, List.append_assoc, List.take_left' hN]
        obtain ⟨BB, hBB⟩ : ∃ BB, BB = B ++ List.replicate z 0 := ⟨_, rfl⟩
        rw [← hBB] at hoB hg0 hpre hzero hfront
        clear hBB
        go_loopw [13, 14] (fun v13 v14 wr => ∃ i A : Nat, i ≤ fl.length ∧ A = n + (body (fl.take i)).length ∧ v14 = .int .i64 i ∧ v13 = .int .i64 A ∧ Below w2.heap.size w2 wr) (fun _ v14 _ => fl.length - (intOf v14).toNat)
        case atStart => exact ⟨0, n, Nat.zero_le _, by simp [body], rfl, rfl, Below.refl _ _⟩
        case round =>
          obtain ⟨i, A, hi, hA, rfl, rfl, hb3⟩ := hrel
          have hB3 := hB2.trans (hb3.mono hB2.size)
          by_cases hi3 : i = fl.length
          · subst hi3
            have hAL : A = L := by
              have hN := HN.out
              rw [hA, List.take_length, HL.out, HB.out, List.length_append, hN]
            have hLA := hAL.symm
            clear hAL
            subst hLA
            clear hA
            have hs3 := hg0.below hb3
            have hl4 := hl3.below hb3
            have hd1 : decide (L < L) = false := by simp
            have hav := hs3.front (m := n) (by omega)
            have hcap := hs3.cap
            have hnc : n ≤ c8 := by omega
            rw [Nat.mul_one] at hav
            rw [bvs_take, hfront.out] at hav
            have k1 := conv_later (w := wr.drew) hav
            have k2 := conv_later (w := wr.drew) hl4
            go_wp2_with fail
            refine wp_region_lex Rb Rb_refl Rb_trans [0,0,0,0,0,0,0,0,0,0,0,0,0,0,0,0,0,0,0] (by kernel_rfl) (by kernel_rfl) ?_
            refine wpCan_seg 19 (by kernel_rfl) ?_
            simp only [List.zip_cons_cons, List.zip_nil_left, List.take_succ_cons, List.take_zero, List.drop_succ_cons, List.drop_zero, List.map_cons, List.map_nil]
            iterate 19 (go_big_quiet_step (fail))
            refine wpQuiet_nil ?_
            unfold wpCan
            clear k1 k2 hcap
            go_wp2_with fail
            go_loopw [19] (fun v19 wq => ∃ j : Nat, L ≤ j ∧ j ≤ L ∧ v19 = .int .i64 j ∧ Below wr.heap.size wr wq) (fun v19 _ => L - (intOf v19).toNat)
            case atStart => exact ⟨L, Nat.le_refl _, by omega, rfl, (Below.refl _ _).drew⟩
            case round =>
              obtain ⟨j, hj1, hj2, rfl, hb4⟩ := hrel
              by_cases hj3 : j = L
              · subst hj3
                go_wp2_with fail
                refine (works_any _).mono ?_
                rintro e w9 ⟨rfl, hb9⟩
                go_wp2_with fail
                go_ret
                have hB4 := hB3.trans (hb4.mono hB3.size)
                exact ⟨rfl, hB4.trans (hb9.mono hB4.size)⟩
              · have hj4 : (j : Int) < L := by omega
                obtain ⟨b, o, rfl, hc⟩ := (hs3.below hb4).byte (show j < L by omega)
                rw [hzero.out j hj1 (by omega)] at hc
                go_wp2_with fail
                refine ⟨⟨j + 1, by omega, by omega, by go_num, hb4⟩, by simp [intOf]; omega⟩
          · have hlt : i < fl.length := by omega
            have hlt' : (i : Int) < fl.length := by omega
            obtain ⟨b2, o2, x, s, rfl, hx, hx2, hs, hs2, hc0, hc1⟩ := field_at (hf3.below stabF hb3) i hlt
            have hz := (Below.cell (p := ⟨w.heap.size, s % 4, none⟩) hb3 (by have q1 := hb.size; have q2 := hb2.size; show w.heap.size < w2.heap.size; omega)).trans (hcz3.out s)
            obtain ⟨s4, hs4⟩ : ∃ s4 : Nat, s4 = s % 4 := ⟨_, rfl⟩
            have hs44 : s4 < 4 := by omega
            have hrem : (s : Int) % 4 = (s4 : Int) := by omega
            rw [← hs4] at hz
            obtain ⟨r, hr⟩ := hpre.out i hlt
            have hsz := szs_le s
            have hrec := rec_get (l ++ body (fl.take i)) _ r x (szs s) rfl hsz.2.2
            have hA2 : (l ++ body (fl.take i)).length = A := by rw [hA, List.length_append, HN.out]
            have hx1 : fl[i].1.toNat = x := by rw [hx]; rfl
            rw [hx1, hs] at hr
            rw [← hr, hA2] at hrec
            have HREC := Lib.hid hrec
            have hstep : Hid (A + szs s = n + (body (fl.take (i + 1))).length) := by
              show _ = _
              rw [body_snoc fl i hlt, List.length_append, hx1, hs, digs_length, hA]; omega
            have hs3 := hg0.below hb3
            have hA5 : A ≤ 80000 := by
              have h1 := body_len (fl.take i)
              simp only [List.length_take] at h1
              omega
            have hfour : szs s = 1 ∧ s4 = 0 ∨ szs s = 2 ∧ s4 = 1 ∨ szs s = 4 ∧ s4 = 2 ∨ szs s = 8 ∧ s4 = 3 := by
              unfold szs
              have : s4 = 0 ∨ s4 = 1 ∨ s4 = 2 ∨ s4 = 3 := by omega
              rcases this with h | h | h | h
              · left; rw [if_pos (by omega)]; exact ⟨rfl, h⟩
              · right; left; rw [if_neg (by omega), if_pos (by omega)]; exact ⟨rfl, h⟩
              · right; right; left; rw [if_neg (by omega), if_neg (by omega), if_pos (by omega)]; exact ⟨rfl, h⟩
              · right; right; right; rw [if_neg (by omega), if_neg (by omega), if_neg (by omega)]; exact ⟨rfl, h⟩
            have hand1 := u64_and_nat x 255 hx2 (by decide)
            have hand2 := u64_and_nat x 65535 hx2 (by decide)
            have hand4 := u64_and_nat x 4294967295 hx2 (by decide)
            rw [show (255 : Nat) = 2 ^ 8 - 1 from rfl, Nat.and_two_pow_sub_one_eq_mod] at hand1
            rw [show (65535 : Nat) = 2 ^ 16 - 1 from rfl, Nat.and_two_pow_sub_one_eq_mod] at hand2
            rw [show (4294967295 : Nat) = 2 ^ 32 - 1 from rfl, Nat.and_two_pow_sub_one_eq_mod] at hand4
            have HA1 := Lib.hid hand1
            have HA2 := Lib.hid hand2
            have HA4 := Lib.hid hand4
            clear hand1 hand2 hand4 hrec hA hA2 hx1 hx hs hs4 hr hsz
            rcases hfour with ⟨e4, rfl⟩ | ⟨e4, rfl⟩ | ⟨e4, rfl⟩ | ⟨e4, rfl⟩
            · rw [e4] at hz hstep HREC
              obtain ⟨G, hG⟩ : ∃ G, G = x % 256 ^ 1 := ⟨_, rfl⟩
              have hr1 : getN BB A 1 = G ∧ getE BB A 1 = 0 := by rw [hG]; exact HREC.out
              have hG2 : G < 18446744073709551616 := by rw [hG]; exact Nat.lt_of_le_of_lt (Nat.mod_le _ _) hx2
              have hand : bits .and .u64 (x : Int) 255 = (G : Int) := by rw [hG]; exact HA1.out
              have HR := Lib.hid hr1
              clear e4 hG hr1 HREC
              go_wp2_with fail
              refine (get_any _ L _ BB _ A 1 hs3 (by omega)).mono ?_
              rintro e w6 ⟨rfl, hb6⟩
              rw [HR.out.1, HR.out.2]
              have hq0 := (Below.cell (p := ⟨b2, o2 + i * 2, none⟩) hb6 (lt_of_cell hc0)).trans hc0
              clear hc0
              go_wp2_with fail
              have hst := hstep.out
              exact ⟨⟨i + 1, A + 1, by omega, hst, by go_num, by go_num, hb3.trans (hb6.mono hb3.size)⟩, by simp [intOf]; omega⟩
            · rw [e4] at hz hstep HREC
              obtain ⟨G, hG⟩ : ∃ G, G = x % 256 ^ 2 := ⟨_, rfl⟩
              have hr1 : getN BB A 2 = G ∧ getE BB A 2 = 0 := by rw [hG]; exact HREC.out
              have hG2 : G < 18446744073709551616 := by rw [hG]; exact Nat.lt_of_le_of_lt (Nat.mod_le _ _) hx2
              have hand : bits .and .u64 (x : Int) 65535 = (G : Int) := by rw [hG]; exact HA2.out
              have HR := Lib.hid hr1
              clear e4 hG hr1 HREC
              go_wp2_with fail
              refine (get_any _ L _ BB _ A 2 hs3 (by omega)).mono ?_
              rintro e w6 ⟨rfl, hb6⟩
              rw [HR.out.1, HR.out.2]
              have hq0 := (Below.cell (p := ⟨b2, o2 + i * 2, none⟩) hb6 (lt_of_cell hc0)).trans hc0
              clear hc0
              go_wp2_with fail
              have hst := hstep.out
              exact ⟨⟨i + 1, A + 2, by omega, hst, by go_num, by go_num, hb3.trans (hb6.mono hb3.size)⟩, by simp [intOf]; omega⟩
            · rw [e4] at hz hstep HREC
              obtain ⟨G, hG⟩ : ∃ G, G = x % 256 ^ 4 := ⟨_, rfl⟩
              have hr1 : getN BB A 4 = G ∧ getE BB A 4 = 0 := by rw [hG]; exact HREC.out
              have hG2 : G < 18446744073709551616 := by rw [hG]; exact Nat.lt_of_le_of_lt (Nat.mod_le _ _) hx2
              have hand : bits .and .u64 (x : Int) 4294967295 = (G : Int) := by rw [hG]; exact HA4.out
              have HR := Lib.hid hr1
              clear e4 hG hr1 HREC
              go_wp2_with fail
              refine (get_any _ L _ BB _ A 4 hs3 (by omega)).mono ?_
              rintro e w6 ⟨rfl, hb6⟩
              rw [HR.out.1, HR.out.2]
              have hq0 := (Below.cell (p := ⟨b2, o2 + i * 2, none⟩) hb6 (lt_of_cell hc0)).trans hc0
              clear hc0
              go_wp2_with fail
              have hst := hstep.out
              exact ⟨⟨i + 1, A + 4, by omega, hst, by go_num, by go_num, hb3.trans (hb6.mono hb3.size)⟩, by simp [intOf]; omega⟩
            · rw [e4] at hz hstep HREC
              obtain ⟨G, hG⟩ : ∃ G, G = x % 256 ^ 8 := ⟨_, rfl⟩
              have hr1 : getN BB A 8 = G ∧ getE BB A 8 = 0 := by rw [hG]; exact HREC.out
              have hG2 : G < 18446744073709551616 := by rw [hG]; exact Nat.lt_of_le_of_lt (Nat.mod_le _ _) hx2
              have hGx : G = x := by rw [hG]; exact Nat.mod_eq_of_lt hx2
              have HR := Lib.hid hr1
              subst hGx
              clear e4 hG hr1 HREC
              go_wp2_with fail
              refine (get_any _ L _ BB _ A 8 hs3 (by omega)).mono ?_
              rintro e w6 ⟨rfl, hb6⟩
              rw [HR.out.1, HR.out.2]
              have hq0 := (Below.cell (p := ⟨b2, o2 + i * 2, none⟩) hb6 (lt_of_cell hc0)).trans hc0
              clear hc0
              go_wp2_with fail
              have hst := hstep.out
              exact ⟨⟨i + 1, A + 8, by omega, hst, by go_num, by go_num, hb3.trans (hb6.mono hb3.size)⟩, by simp [intOf]; omega⟩
    · have hlt : i < fl.length := by omega
      have hlt' : (i : Int) < fl.length := by omega
      obtain ⟨b2, o2, x, s, rfl, hx, hx2, hs, hs2, hc0, hc1⟩ := field_at hf2 i hlt
      have HS : Hid (body (fl.take (i + 1)) = body (fl.take i) ++ digs x (szs s)) := by
        show _ = _
        rw [body_snoc fl i hlt, hx, hs]; rfl
      have hlen : (l ++ body (fl.take i)).length ≤ 2000 := by
        have := body_len (fl.take i)
        have hN := HN.out
        simp only [List.length_append, List.length_take] at *; omega
      have hz := (Below.cell (p := ⟨w.heap.size, s % 4, none⟩) hb hS1).trans (hcz1.out s)
      have k0 := later_cell hc0
      have k1 := later_cell hc1
      have k2 := later_cell hz
      have hsz := szs_le s
      generalize (l ++ body (fl.take i)).length = L at *
      obtain ⟨s4, hs4⟩ : ∃ s4 : Nat, s4 = s % 4 := ⟨_, rfl⟩
      have hs44 : s4 < 4 := by omega
      have hrem : (s : Int) % 4 = (s4 : Int) := by omega
      rw [← hs4] at k2
      clear hx hs hs4 hc0 hc1 hz
      go_wp2_with fail
      refine wp_region_lex Rb Rb_refl Rb_trans [0,0,0,0,0,0,0,0,0,0,0,0,0,0,0,0,1,0] (by kernel_rfl) (by kernel_rfl) ?_
      refine wpCan_seg 16 (by kernel_rfl) ?_
      simp only [List.zip_cons_cons, List.zip_nil_left, List.take_succ_cons, List.take_zero, List.drop_succ_cons, List.drop_zero, List.map_cons, List.map_nil]
      iterate 16 (go_big_quiet_step (fail))
      refine wpQuiet_nil ?_
      refine wpCan_list (k := 0) (fun K hK => ?_) (fun _ => Rb_refl _)
      go_wp2_with fail
      refine (put_any _ _ c8 _ _ x (szs s) ho.drew.sl (by omega) hx2).mono ?_
      rintro e w2 ⟨v2, rfl, ho2, hb2⟩
      go_wp2_with fail
      refine hK _ _ (fun _ => hb2) ?_
      clear hK K k0 k1 k2
      refine wpCan_seg 1 (by kernel_rfl) ?_
      simp only [List.zip_cons_cons, List.zip_nil_left, List.take_succ_cons, List.take_zero, List.drop_succ_cons, List.drop_zero, List.map_cons, List.map_nil]
      iterate 1 (go_big_quiet_step (fail))
      refine wpQuiet_nil ?_
      unfold wpCan
      go_wp2_with fail
      have hP : putL (l ++ body (fl.take i)) x (szs s) = l ++ body (fl.take (i + 1)) := by rw [putL, if_pos hsz.2.2, HS.out, List.append_assoc]; rfl
      rw [hP] at ho2
      refine ⟨⟨i + 1, by omega, by go_num, ho2.mono ?_, hb.drew.trans (hb2.mono hb.size)⟩, by simp [intOf]; omega⟩
      have := hBr.size
      show w.heap.size ≤ wr.heap.size
      omega

theorem record_walk' (a : Option Addr) (n c : Nat) (a2 : Option Addr) (m c2 : Nat) (z : Int) (l : List UInt8) (fl : List (Int × Int)) (w : World) (hl : SlOf VByte 1 w (.slice a n c) l) (hf : SlOf VF 2 w (.slice a2 m c2) fl) (hz : (Lit.int .u16 z).wf = true) :
    Calls Try.prog 4 #[.slice a n c, .slice a2 m c2, .int .u16 z] w fun e w' => e = .returned (.bool true) ∧ Below w.heap.size w w' := by
  obtain ⟨t, ht, rfl⟩ := nat_u16 hz
  have h := hl.bytes
  have hn := hl.len
  rw [← hn.1] at h
  exact record_walk a a2 n c m c2 t ht l fl w h hf
end Go.Proofs.Ytnbabdeklceklaa
