/-
  The document's Put and Room. Conditions: slices of bytes of 2^20 at most.
-/
import Derived.Test.YtafigfgcgnnbnaaSlotT
namespace Go.Proofs.Ytafigfgcgnnbnaa
open Go.RowKit
set_option linter.unusedVariables false
set_option linter.unusedSimpArgs false

theorem freeL_end (rs : List (List UInt8)) (h : ∀ j (hj : j < rs.length), rs[j].isEmpty = false) : freeL rs = rs.length := by
  have hle : freeL rs ≤ rs.length := List.findIdx_le_length
  rcases Nat.lt_or_ge (freeL rs) rs.length with h1 | h1
  · have h2 : rs[freeL rs].isEmpty = true := List.findIdx_getElem (w := h1)
    rw [h _ h1] at h2; cases h2
  · omega


set_option maxHeartbeats 1600000 in
theorem rput_any (a : Option Addr) (n c : Nat) (p : List UInt8) (a2 : Option Addr) (m c2 : Nat) (r : List UInt8) (w : World) (hp : Sl w 1 (.slice a n c) n (bvs p)) (hsz : n ≤ 1048576) (hr2 : Sl w 1 (.slice a2 m c2) m (bvs r)) (hsz2 : m ≤ 1048576) :
    Calls Try.prog 12 #[.slice a n c, .slice a2 m c2] w fun e w' => ∃ v, e = .returned (.tuple #[v, .int .i64 (putS p r), .bool (putIs p r)]) ∧ Own w' w.heap.size 1 v (putQ p r).length (bvs (putQ p r)) ∧ Below w.heap.size w w' := by
  have hr0 := rread_any a n c p w hp hsz
  have hfl := readL_flat p
  have hpn := hp.len.1
  have hrm := hr2.len.1
  have hie := putIs_eq p r
  obtain ⟨X, hX⟩ : ∃ X, X = putQ p r := ⟨_, rfl⟩
  obtain ⟨Z, hZ⟩ : ∃ Z, Z = putS p r := ⟨_, rfl⟩
  obtain ⟨G, hG⟩ : ∃ G, G = putIs p r := ⟨_, rfl⟩
  obtain ⟨O, hO⟩ : ∃ O, O = readOk p := ⟨_, rfl⟩
  obtain ⟨E, hE⟩ : ∃ E, E = readL p := ⟨_, rfl⟩
  have hE2 : E.length ≤ 255 := by rw [hE]; exact readL_len p
  have hEf : E.flatten.length ≤ 1048576 := by rw [hE]; omega
  have HX : Hid (X = (if G then writeL (putRows E r) else []) ∧ Z = (if G then (freeL E : Int) else 0)) := by
    show _ ∧ _; rw [hX, hZ, putQ, putS, ← hG, ← hE]; exact ⟨rfl, rfl⟩
  rw [← hX, ← hZ, ← hG]
  rw [← hG, ← hO, ← hE, hrm] at hie
  rw [← hO, ← hE] at hr0
  have HR0 := Lib.hid hr0
  have HIE := Lib.hid hie
  have HRM := Lib.hid hrm
  clear hr0 hX hZ hG hO hie hfl hpn hE hrm
  obtain ⟨k, hk⟩ : ∃ k, k = E.length := ⟨_, rfl⟩
  rw [← hk] at HR0 hE2
  have HK := Lib.hid hk
  clear hk
  have hbad : G = false → X = [] ∧ Z = 0 := fun h => by rw [HX.out.1, HX.out.2, h]; exact ⟨rfl, rfl⟩
  have HB := Lib.hid hbad
  clear hbad
  cases O with
  | false =>
    have hG : G = false := by rw [HIE.out]; rfl
    have HG : Hid (G = false ∧ X = [] ∧ Z = 0) := ⟨hG, HB.out hG⟩
    clear hG
    go_enter Try.func12, Try.ntmps12
    go_wp2_with fail
    refine HR0.out.mono ?_
    rintro e w1 ⟨v1, cells, rfl, ho, hr, hb⟩
    obtain ⟨a1, c1, rfl⟩ := ho.form
    go_wp2_with fail
    go_ret3
    rw [HG.out.1, HG.out.2.1, HG.out.2.2]
    exact ⟨_, rfl, Own.nil _ _ _, hb⟩
  | true =>
  by_cases hm0 : m = 0
  · have hG : G = false := by rw [HIE.out, hm0]; rfl
    have HG : Hid (G = false ∧ X = [] ∧ Z = 0) := ⟨hG, HB.out hG⟩
    subst hm0
    clear hG
    go_enter Try.func12, Try.ntmps12
    go_wp2_with fail
    refine HR0.out.mono ?_
    rintro e w1 ⟨v1, cells, rfl, ho, hr, hb⟩
    obtain ⟨a1, c1, rfl⟩ := ho.form
    go_wp2_with fail
    go_ret3
    rw [HG.out.1, HG.out.2.1, HG.out.2.2]
    exact ⟨_, rfl, Own.nil _ _ _, hb⟩
  have hm1 : ((m : Int) == 0) = false := by rw [beq_eq_false_iff_ne]; omega
  have hrne : r ≠ [] := by intro h; have := HRM.out; rw [h] at this; simp at this; omega
  have hflat : ∀ l : List (List UInt8), r ∈ l → r.length ≤ l.flatten.length := fun l h => mem_le_flat l r h
  have hmem : r ∈ putRows E r := by
    unfold putRows
    split
    · simp
    · rename_i hne
      have hle : freeL E ≤ E.length := List.findIdx_le_length
      exact List.mem_set (by omega) r
  obtain ⟨LQ, hLQ⟩ : ∃ LQ, LQ = (writeL (putRows E r)).length := ⟨_, rfl⟩
  rw [← hLQ] at HIE
  have HLQ := Lib.hid hLQ
  by_cases hm248 : 248 < m
  · have hG : G = false := by
      have hq : 248 < LQ := by
        rw [hLQ, writeL]
        have h1 : r ∈ trimL (putRows E r) := by
          unfold trimL
          rw [List.mem_reverse]
          have h2 : r ∈ (putRows E r).reverse := by rw [List.mem_reverse]; exact hmem
          obtain ⟨s, t, hst⟩ := List.append_of_mem h2
          have key : ∀ (s t : List (List UInt8)), r ∈ (s ++ r :: t).dropWhile (·.isEmpty) := by
            intro s t
            induction s with
            | nil =>
              have : r.isEmpty = false := by simpa using hrne
              simp [this]
            | cons x s ih =>
              rw [List.cons_append, List.dropWhile_cons]
              split
              · exact ih
              · simp
          rw [hst]; exact key s t
        have h3 := mem_le_flat _ _ h1
        simp only [List.length_append]
        have := HRM.out
        omega
      rw [HIE.out, decide_eq_false (by omega : ¬ LQ ≤ 248), Bool.and_false]
    have HG : Hid (G = false ∧ X = [] ∧ Z = 0) := ⟨hG, HB.out hG⟩
    have hm3 : (248 : Int) < m := by omega
    clear hG hflat hmem hrne hLQ
    go_enter Try.func12, Try.ntmps12
    go_wp2_with fail
    refine HR0.out.mono ?_
    rintro e w1 ⟨v1, cells, rfl, ho, hr, hb⟩
    obtain ⟨a1, c1, rfl⟩ := ho.form
    go_wp2_with fail
    go_ret3
    rw [HG.out.1, HG.out.2.1, HG.out.2.2]
    exact ⟨_, rfl, Own.nil _ _ _, hb⟩
  have hm3 : ¬ (248 : Int) < m := by omega
  have hint : (248 < LQ → G = false ∧ X = [] ∧ Z = 0) ∧ (¬ 248 < LQ → G = true ∧ X = writeL (putRows E r) ∧ Z = (freeL E : Int)) := by
    refine ⟨fun h => ?_, fun h => ?_⟩
    · have hG : G = false := by rw [HIE.out, decide_eq_false (by omega : ¬ LQ ≤ 248), Bool.and_false]
      exact ⟨hG, HB.out hG⟩
    · have hG : G = true := by rw [HIE.out, decide_eq_true (by omega : LQ ≤ 248), decide_eq_true (by omega : 0 < m)]; rfl
      rw [HX.out.1, HX.out.2, hG]; exact ⟨rfl, rfl, rfl⟩
  have HI0 := Lib.hid hint
  have hpl : (putRows E r).flatten.length ≤ 1073741824 := by
    have hr9 := HRM.out
    unfold putRows
    split
    · have e : [r].flatten.length = r.length := (by simp)
      rw [List.flatten_append, List.length_append, e]; omega
    · have := set_flat E (freeL E) r; omega
  clear hflat hmem hrne hLQ hint
  go_enter Try.func12, Try.ntmps12
  go_wp2_with fail
  refine HR0.out.mono ?_
  rintro e w1 ⟨v1, cells, rfl, ho, hra, hb⟩
  obtain ⟨a1, c1, rfl⟩ := ho.form
  go_wp2_with fail
  go_loop [9] (fun v9 => ∃ f : Nat, f ≤ k ∧ v9 = .int .i64 f ∧ ∀ j (h : j < f) (hj : j < E.length), E[j].isEmpty = false) (fun v9 => k - (intOf v9).toNat)
  case atStart => exact ⟨0, Nat.zero_le _, rfl, fun j h => by omega⟩
  case round =>
    obtain ⟨f, hf, rfl, hj⟩ := hrel
    have HJ := Lib.hid hj
    clear hj
    by_cases hfk : f = k
    · have hF : freeL E = f := by
        rw [hfk, HK.out]
        exact freeL_end E fun j hj => HJ.out j (by rw [hfk, HK.out]; exact hj) hj
      have HPR : Hid (putRows E r = E ++ [r]) := by show _ = _; rw [putRows, if_pos (by rw [hF, ← HK.out]; exact hfk)]
      have HI := HI0
      rw [hF] at HI
      clear hF
      obtain rfl := hfk
      have ho3 := ho.alloc (.cells #[.slice none 0 0] 22)
      have hs3 := Sl.one w1 (.slice none 0 0) 22
      have hb3 := hb.alloc hb.size (.cells #[.slice none 0 0] 22)
      have hra3 := hra.below ((Below.refl _ _).alloc (Nat.le_refl _) (.cells #[.slice none 0 0] 22))
      go_wp2_with (at_builtin; refine wpL_appendX etBB rfl _ _ rfl ho3 rfl hs3 rfl (by simp [Value.oneCell']) (by omega) (by simp [maxLen]; omega) hb3.size ?_; intro v4 w4 ho4 hg4 hv4; have hb4 := below_own hb3 ho3 hg4 (Nat.le_refl _) hb3.size; have hra4 := hra3.grown hg4 hv4; obtain ⟨g, off, cap, rfl, hg1, hg2, hg3, hg5, hg6⟩ := ho4.open (by omega) (by decide); obtain ⟨hq, hq2⟩ := own_last ho4; clear hg6 hg4 hv4)
      have hb5 : Below w.heap.size w (w4.setCell ⟨g, off + f, none⟩ (.slice a2 m c2)) := hb4.setCell (p := ⟨g, off + f, none⟩) hg1 _
      have ho5 := ho4.set f (.slice a2 m c2)
      have hrr : RowsOf (w4.setCell ⟨g, off + f, none⟩ (.slice a2 m c2)) ((cells ++ [Value.slice none 0 0]).set f (.slice a2 m c2)) (putRows E r) := by
        rw [HPR.out]
        have h := hra4 (w4.setCell ⟨g, off + f, none⟩ (.slice a2 m c2)) (grown_set _ _ _ _)
        have hc := h.1
        rw [← HK.out] at hc
        rw [List.set_append_right _ _ (by omega), hc, Nat.sub_self, List.set_cons_zero]
        exact h.snoc HRM.out.symm (hr2.below hb5)
      refine (rwrite_any _ (f + 1) cap _ (putRows E r) _ ho5.sl hrr hpl (by omega)).mono ?_
      rintro e w6 ⟨v6, rfl, ho6, hb6⟩
      obtain ⟨a6, c6, rfl⟩ := ho6.form
      rw [← HLQ.out] at ho6
      rw [← HLQ.out]
      have hB6 := hb5.trans (hb6.mono hb5.size)
      by_cases hbig : 248 < LQ
      · have hbig' : (248 : Int) < LQ := by omega
        have HG := Lib.hid (HI.out.1 hbig)
        go_wp2_with fail
        go_ret3
        rw [HG.out.1, HG.out.2.1, HG.out.2.2]
        exact ⟨_, rfl, Own.nil _ _ _, hB6⟩
      · have hbig' : ¬ (248 : Int) < LQ := by omega
        have HG := Lib.hid (HI.out.2 hbig)
        go_wp2_with fail
        go_ret3
        rw [HG.out.1, HG.out.2.1, HG.out.2.2, ← HLQ.out]
        exact ⟨_, rfl, ho6.mono hb5.size, hB6⟩
    · have hlt : f < k := by omega
      have hlt' : (f : Int) < k := by omega
      obtain ⟨b3, o3, av, cv, r3, ha3, hri3, hc, hsl⟩ := row_at ho.sl hra.rows f hlt
      have HRI := Lib.hid hri3
      cases ha3
      by_cases h0 : r3 = []
      · subst h0
        have hF : freeL E = f := by
          have hk2 : f < E.length := by rw [← HK.out]; exact hlt
          refine findIdx_at E f hk2 ?_ HJ.out
          have := HRI.out
          rw [List.getElem?_eq_getElem hk2] at this
          rw [Option.some.inj this]; rfl
        have HPR : Hid (putRows E r = E.set f r) := by show _ = _; rw [putRows, if_neg (by rw [hF, ← HK.out]; exact hfk), hF]
        have HI := HI0
        rw [hF] at HI
        have hfk2 : ((f : Int) == (k : Int)) = false := by rw [beq_eq_false_iff_ne]; omega
        rw [List.length_nil] at hc
        clear hF hri3 hsl
        obtain ⟨g, off, cap, e9, hg1, hg2, hg3, hg4, hg5⟩ := ho.open (by omega) (by decide)
        cases e9
        have hf2 := ho.free f (by omega)
        have HQ := Lib.hid hg5
        clear hg5
        go_wp2_with fail
        have hb5 : Below w.heap.size w (w1.setCell ⟨b3, o3 + f, none⟩ (.slice a2 m c2)) := hb.setCell (p := ⟨b3, o3 + f, none⟩) hg1 _
        have ho5 := ho.set f (.slice a2 m c2)
        have hrr : RowsOf (w1.setCell ⟨b3, o3 + f, none⟩ (.slice a2 m c2)) (cells.set f (.slice a2 m c2)) (putRows E r) := by
          rw [HPR.out]
          have h := hra (w1.setCell ⟨b3, o3 + f, none⟩ (.slice a2 m c2)) (grown_set _ _ _ _)
          exact h.set f HRM.out.symm (hr2.below hb5)
        refine (rwrite_any _ k c1 _ (putRows E r) _ ho5.sl hrr hpl (by omega)).mono ?_
        rintro e w6 ⟨v6, rfl, ho6, hb6⟩
        obtain ⟨a6, c6, rfl⟩ := ho6.form
        rw [← HLQ.out] at ho6
        rw [← HLQ.out]
        have hB6 := hb5.trans (hb6.mono hb5.size)
        by_cases hbig : 248 < LQ
        · have hbig' : (248 : Int) < LQ := by omega
          have HG := Lib.hid (HI.out.1 hbig)
          go_wp2_with fail
          go_ret3
          rw [HG.out.1, HG.out.2.1, HG.out.2.2]
          exact ⟨_, rfl, Own.nil _ _ _, hB6⟩
        · have hbig' : ¬ (248 : Int) < LQ := by omega
          have HG := Lib.hid (HI.out.2 hbig)
          go_wp2_with fail
          go_ret3
          rw [HG.out.1, HG.out.2.1, HG.out.2.2, ← HLQ.out]
          exact ⟨_, rfl, ho6.mono hb5.size, hB6⟩
      · have hpos : 0 < r3.length := List.length_pos_iff.2 h0
        obtain ⟨q, hq⟩ : ∃ q, q = r3.length := ⟨_, rfl⟩
        rw [← hq] at hc hpos
        have hpos' : (0 : Int) < q := by omega
        clear hsl hq hri3
        go_wp2_with fail
        refine ⟨⟨f + 1, by omega, by go_num, fun j h hj => ?_⟩, by simp [intOf]; omega⟩
        by_cases hjk : j < f
        · exact HJ.out j hjk hj
        · obtain rfl : j = f := by omega
          have := HRI.out
          rw [List.getElem?_eq_getElem hj] at this
          rw [Option.some.inj this]
          simpa using h0

theorem roomN_cases (p : List UInt8) : roomN p = -1 ∨ (readOk p = true ∧ 1 ≤ roomN p ∧ roomN p ≤ 246) := by
  by_cases h : readOk p = false ∨ leftN p < 1
  · left; rw [roomN, if_pos h]
  · right
    have e : readOk p = true := by cases hb : readOk p <;> simp_all
    have hl : ¬ leftN p < 1 := fun h2 => h (.inr h2)
    refine ⟨e, ?_⟩
    rw [roomN, if_neg h]
    obtain ⟨h1, h2, h3, h4⟩ := read_parts e
    have : leftN p ≤ 246 := by
      unfold leftN
      split
      · omega
      · rename_i hf
        have hle : freeL (readL p) ≤ (readL p).length := List.findIdx_le_length
        have h5 : 0 < (readL p).length := by omega
        have h6 : 0 < (readL p).flatten.length := by
          have hne : readL p ≠ [] := List.length_pos_iff.1 h5
          have hl := last_of_trim _ hne h1
          have := mem_le_flat _ _ (List.getLast_mem hne)
          have := List.length_pos_iff.2 hl
          omega
        omega
    omega
theorem putIs_room (p : List UInt8) (k : Nat) (hk : 0 < k) : putIs p (List.replicate k 0) = decide ((k : Int) ≤ roomN p) := by
  rw [putIs, List.length_replicate, decide_eq_true hk, Bool.true_and]

set_option maxHeartbeats 800000 in
theorem rroom_any (a : Option Addr) (n c : Nat) (p : List UInt8) (w : World) (hp : Sl w 1 (.slice a n c) n (bvs p)) (hsz : n ≤ 1048576) :
    Calls Try.prog 29 #[.slice a n c] w fun e w' => e = .returned (.int .i64 (roomN p)) ∧ Below w.heap.size w w' := by
  have hcs := roomN_cases p
  have hpr := putIs_room p
  have hno : readOk p = false → roomN p = -1 := fun h => by rcases hcs with h1 | h1; exact h1; rw [h] at h1; cases h1.1
  obtain ⟨N, hN⟩ : ∃ N, N = roomN p := ⟨_, rfl⟩
  obtain ⟨O, hO⟩ : ∃ O, O = readOk p := ⟨_, rfl⟩
  have hr := rright_any a n c p w hp hsz
  rw [← hN] at hcs hpr
  rw [← hO] at hr
  rw [← hN, ← hO] at hno
  rw [← hN]
  have hNr : N = -1 ∨ (1 ≤ N ∧ N ≤ 246) := by rcases hcs with h | h; exact .inl h; exact .inr h.2
  have HR := Lib.hid hr
  have HPR := Lib.hid hpr
  have HNO := Lib.hid hno
  clear hcs hpr hno hN hO hr
  cases O with
  | false =>
    have HN := Lib.hid (HNO.out rfl)
    clear hNr
    go_enter Try.func29, Try.ntmps29
    go_wp2_with fail
    refine HR.out.mono ?_
    rintro e w1 ⟨rfl, hb⟩
    go_wp2_with fail
    go_ret
    exact ⟨ret_int HN.out.symm, hb⟩
  | true =>
  have HNr := Lib.hid hNr
  clear hNr
  go_enter Try.func29, Try.ntmps29
  go_wp2_with fail
  refine HR.out.mono ?_
  rintro e w1 ⟨rfl, hb⟩
  go_wp2_with fail
  go_loopw [3, 4, 5, 6] (fun v3 v4 v5 v6 wr => ∃ k : Nat, k ≤ 248 ∧ v3 = .int .i64 k ∧ N ≤ k ∧ Below w.heap.size w wr) (fun v3 _ _ _ _ => (intOf v3).toNat)
  case atStart => exact ⟨248, Nat.le_refl _, rfl, by have := HNr.out; omega, hb⟩
  case round =>
    obtain ⟨k, hk, rfl, hNk, hb2⟩ := hrel
    by_cases hk0 : k = 0
    · have HN : Hid (N = -1) := by show _ = _; have := HNr.out; omega
      subst hk0
      clear hNk
      go_wp2_with fail
      go_ret
      exact ⟨ret_int HN.out.symm, hb2⟩
    · have hk1 : (0 : Int) < k := by omega
      obtain ⟨j, hj⟩ : ∃ j, k = j + 1 := ⟨k - 1, by omega⟩
      subst hj
      go_wp2_with (at_make; refine wpL_make etB rfl rfl _ _ rfl (j + 1) w.heap.size rfl rfl rfl rfl (by omega) (by simp [maxLen]; omega) hb2.size ?_; rintro v2 w2 hown hbz ⟨g, off, rfl, hg⟩; have hb3 := hb2.trans (hbz.mono hb2.size))
      have hrep : Hid (putIs p (List.replicate (j + 1) 0) = decide (((j + 1 : Nat) : Int) ≤ N)) := HPR.out (j + 1) (by omega)
      rw [bvs_replicate] at hown
      refine (rput_any a n c p _ (j + 1) (j + 1) _ w2 (hp.below hb3) hsz hown.sl (by omega)).mono ?_
      rintro e w3 ⟨v3, rfl, ho3, hb4⟩
      obtain ⟨a3, c3, rfl⟩ := ho3.form
      have hb5 := hb3.trans (hb4.mono hb3.size)
      rw [hrep.out]
      by_cases hle : ((j + 1 : Nat) : Int) ≤ N
      · have HN : Hid (N = ((j + 1 : Nat) : Int)) := by show _ = _; omega
        have hd : decide (((j + 1 : Nat) : Int) ≤ N) = true := decide_eq_true hle
        rw [hd]
        clear hle hNk hd
        go_wp2_with fail
        go_ret
        exact ⟨ret_int (by rw [HN.out]; push_cast; rfl), hb5⟩
      · have hd : decide (((j + 1 : Nat) : Int) ≤ N) = false := decide_eq_false hle
        rw [hd]
        have HL := Lib.hid hle
        clear hle hd
        go_wp2_with fail
        refine ⟨⟨j, by omega, by go_num, by have := HL.out; omega, hb5⟩, by simp [intOf]⟩
end Go.Proofs.Ytafigfgcgnnbnaa
