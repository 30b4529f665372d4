/-
  The document's heap: Collect. Conditions: the heap reads as one.
-/
import Derived.Test.YtekmgffjdheifaaHqU
namespace Go.Proofs.Ytekmgffjdheifaa
open Go Go.RowKit
set_option linter.unusedVariables false
set_option linter.unusedSimpArgs false
set_option maxRecDepth 100000

theorem etBoV : ET Try.prog 54 4 (.bool false) 1 1 := ⟨Try.underlying54, by kernel_rfl, rfl, by decide⟩
theorem take_nextV (R : List Int) {i : Nat} (h : i < R.length) : R.take (i + 1) = R.take i ++ [R.getD i 0] := by
  rw [List.take_succ_eq_append_getElem h, getD_lt h]
/-- some things have gone -/
structure Cl (H : List Th) (S : List Bool) (i : Nat) (Hi : List Th) : Prop where
  len : Hi.length = H.length
  at_ : ∀ j : Nat, Hi.getD j noTh = if j < i ∧ (H.getD j noTh).is = true ∧ S.getD j false = false then noTh else H.getD j noTh
theorem Cl.start (H : List Th) (S : List Bool) : Cl H S 0 H := ⟨rfl, fun j => by rw [if_neg (by omega)]⟩
theorem Cl.skip {H Hi : List Th} {S : List Bool} {i : Nat} (h : Cl H S i Hi) (hn : ¬ ((H.getD i noTh).is = true ∧ S.getD i false = false)) : Cl H S (i + 1) Hi :=
  ⟨h.len, fun j => by
    rw [h.at_ j]
    by_cases e : j = i
    · subst e
      rw [if_neg (by omega), if_neg (fun h => hn h.2)]
    · by_cases c : j < i ∧ (H.getD j noTh).is = true ∧ S.getD j false = false
      · rw [if_pos c, if_pos ⟨by omega, c.2⟩]
      · rw [if_neg c, if_neg (fun h => c ⟨by omega, h.2⟩)]⟩
theorem Cl.go {H Hi : List Th} {S : List Bool} {i : Nat} (h : Cl H S i Hi) (hi : i < H.length) (hn : (H.getD i noTh).is = true ∧ S.getD i false = false) : Cl H S (i + 1) (putTh Hi i noTh) :=
  ⟨by rw [putTh_len]; exact h.len, fun j => by
    rw [putTh_getD (by rw [h.len]; exact hi), h.at_ j]
    by_cases e : j = i
    · subst e
      rw [if_pos rfl, if_pos ⟨by omega, hn⟩]
    · rw [if_neg e]
      by_cases c : j < i ∧ (H.getD j noTh).is = true ∧ S.getD j false = false
      · rw [if_pos c, if_pos ⟨by omega, c.2⟩]
      · rw [if_neg c, if_neg (fun h => c ⟨by omega, h.2⟩)]⟩
theorem Cl.still {H Hi : List Th} {S : List Bool} {i : Nat} (h : Cl H S i Hi) : Hi.getD i noTh = H.getD i noTh := by rw [h.at_, if_neg (by omega)]
theorem Cl.end_ {H Hi : List Th} {S : List Bool} {R : List Int} {m : Nat} (h : Cl H S H.length Hi) (hg : Good H m) (hs : Rchs H S (R ++ dirtyL H)) : Hi = collectH H R := by
  refine heap_ext (by rw [h.len, collectH_len]) fun k => ?_
  rcases Int.lt_or_le k 0 with hk | hk
  · rw [thAt_neg hk, thAt_neg hk]
  obtain ⟨j, rfl⟩ : ∃ j : Nat, k = j := ⟨k.toNat, by omega⟩
  rw [collect_mkd hs j, thAt_nat, h.at_ j]
  rcases Nat.lt_or_ge j H.length with hl | hl
  · cases hi : (H.getD j noTh).is with
    | false =>
      have := hg.non j (by rw [thAt_nat]; exact hi)
      rw [if_neg (by simp), thAt_nat] at *
      split
      · rfl
      · exact this
    | true =>
      cases hj : S.getD j false with
      | true => rw [if_neg (by simp), if_pos rfl, thAt_nat]
      | false => rw [if_pos ⟨hl, rfl, rfl⟩, if_neg (by simp)]
  · have e0 : H.getD j noTh = noTh := by rw [List.getD_eq_getElem?_getD, List.getElem?_eq_none hl]; rfl
    rw [e0]
    simp only [ite_self]
    split
    · rw [thAt_nat, e0]
    · rfl
section
variable {col : Nat → Nat} {w w' : World} {r m gl ol cl : Nat} {H : List Th} {cs : List Value} {vs : Nat → Value}
def zero7 : List Value := [.int .u8 0, .int .i64 0, .slice none 0 0, .string ⟨#[]⟩, .bool false, .int .i64 0, .bool false]
theorem RfIn.clear (h : RfIn col w r m H gl ol cl cs vs) {i : Nat} (hi : i < H.length) (hg : w.grownBy w' (some gl)) (hown : Own w' 0 7 (.slice (some ⟨gl, ol, none⟩) H.length cl) H.length (splice cs (i * 7) zero7)) :
    RfIn col w' r m (putTh H i noTh) gl ol cl (splice cs (i * 7) zero7) (fun q => if q = i then .slice none 0 0 else vs q) ∧ St RQ col w col w' := by
  have K6 : St (fun y => y = 6) col w col w' := St.one hg _ _ (h.own.2 gl rfl)
  have hl := h.own.1.1
  refine ⟨h.put hi (h' := noTh) (v' := .slice none 0 0) (K6.mono (fun _ e => .inl e)) (h.row.grown hg (fun e => h.ne (Option.some.inj e).symm)) hown (fun q j hq hj => ?_) (OwnC.nil _ _ _ _), K6.mono (fun x hx => .inl hx)⟩
  rw [splice_get _ _ _ _ (by simp [zero7]; omega)]
  by_cases e : q = i
  · subst e
    rw [if_pos (by simp [zero7]; omega), if_pos rfl, show q * 7 + j - q * 7 = j by omega]
    rfl
  · rw [if_neg (by simp [zero7]; omega), if_neg e]
def CrR (r m gl ol cl gd od sz n : Nat) (cs : List Value) (vs : Nat → Value) (H : List Th) (col : Nat → Nat) (R : List Int) (w : World) (v6 : Value) (wr : World) : Prop :=
  ∃ (i : Nat) (S : List Bool), i ≤ n ∧ v6 = .int .i64 (i : Nat) ∧ Hid (Rchs H S (R.take i) ∧ RfIn col wr r m H gl ol cl cs vs ∧ OwnC col wr 9 1 (.slice (some ⟨gd, od, none⟩) sz sz) sz (bos S) ∧ Below w.heap.size w wr)
theorem CrR.mk {r m gl ol cl gd od sz n : Nat} {cs : List Value} {vs : Nat → Value} {H : List Th} {col : Nat → Nat} {R : List Int} {w : World} {v6 : Value} {wr : World} (i : Nat) (S : List Bool) (h1 : i ≤ n) (h2 : v6 = .int .i64 (i : Nat)) (h3 : Rchs H S (R.take i)) (h4 : RfIn col wr r m H gl ol cl cs vs)
    (h5 : OwnC col wr 9 1 (.slice (some ⟨gd, od, none⟩) sz sz) sz (bos S)) (h6 : Below w.heap.size w wr) : CrR r m gl ol cl gd od sz n cs vs H col R w v6 wr := ⟨i, S, h1, h2, Lib.hid ⟨h3, h4, h5, h6⟩⟩
def CdR (r m gl ol cl gd od sz : Nat) (cs : List Value) (vs : Nat → Value) (H : List Th) (col : Nat → Nat) (R : List Int) (w : World) (v7 : Value) (wr : World) : Prop :=
  ∃ (i : Nat) (S : List Bool), i ≤ sz ∧ v7 = .int .i64 (i : Nat) ∧ Hid (Rchs H S (R ++ dirTo H i) ∧ RfIn col wr r m H gl ol cl cs vs ∧ OwnC col wr 9 1 (.slice (some ⟨gd, od, none⟩) sz sz) sz (bos S) ∧ Below w.heap.size w wr)
theorem CdR.mk {r m gl ol cl gd od sz : Nat} {cs : List Value} {vs : Nat → Value} {H : List Th} {col : Nat → Nat} {R : List Int} {w : World} {v7 : Value} {wr : World} (i : Nat) (S : List Bool) (h1 : i ≤ sz) (h2 : v7 = .int .i64 (i : Nat)) (h3 : Rchs H S (R ++ dirTo H i)) (h4 : RfIn col wr r m H gl ol cl cs vs)
    (h5 : OwnC col wr 9 1 (.slice (some ⟨gd, od, none⟩) sz sz) sz (bos S)) (h6 : Below w.heap.size w wr) : CdR r m gl ol cl gd od sz cs vs H col R w v7 wr := ⟨i, S, h1, h2, Lib.hid ⟨h3, h4, h5, h6⟩⟩
def CcR (r m gl ol cl gd od sz : Nat) (H : List Th) (S : List Bool) (col0 col : Nat → Nat) (w : World) (v8 v9 : Value) (wr : World) : Prop :=
  ∃ (i T : Nat) (Hi : List Th) (cs : List Value) (vs : Nat → Value), i ≤ sz ∧ T ≤ i ∧ v9 = .int .i64 (i : Nat) ∧ v8 = .int .i64 (T : Nat) ∧ Hid (Cl H S i Hi ∧ T = wantN H S i ∧ RfIn col wr r m Hi gl ol cl cs vs ∧ OwnC col wr 9 1 (.slice (some ⟨gd, od, none⟩) sz sz) sz (bos S) ∧ St RQ col0 w col wr)
theorem CcR.mk {r m gl ol cl gd od sz : Nat} {H : List Th} {S : List Bool} {col0 col : Nat → Nat} {w : World} {v8 v9 : Value} {wr : World} (i T : Nat) (Hi : List Th) (cs : List Value) (vs : Nat → Value) (h1 : i ≤ sz) (h2 : T ≤ i) (h3 : v9 = .int .i64 (i : Nat)) (h4 : v8 = .int .i64 (T : Nat)) (h5 : Cl H S i Hi) (h6 : T = wantN H S i) (h7 : RfIn col wr r m Hi gl ol cl cs vs)
    (h8 : OwnC col wr 9 1 (.slice (some ⟨gd, od, none⟩) sz sz) sz (bos S)) (h9 : St RQ col0 w col wr) : CcR r m gl ol cl gd od sz H S col0 col w v8 v9 wr := ⟨i, T, Hi, cs, vs, h1, h2, h3, h4, Lib.hid ⟨h5, h6, h7, h8, h9⟩⟩
set_option maxHeartbeats 8000000 in
theorem collectR_p (h : RfIn col w r m H gl ol cl cs vs) (hg : Hid (Good H m)) (hwf : Hid (WfH H)) (hm : m ≤ 16777216) (hlen9 : H.length ≤ 1000000) (R : List Int) (a : Option Addr) (n c : Nat) (hR : Sl w 1 (.slice a n c) n (ints R)) (hn9 : n ≤ 1048576) (H' : List Th) (hH : Hid (H' = collectH H R)) (N : Int) (hN : Hid (N = (countH H : Int) - (countH H' : Int))) :
    Calls Try.prog 66 #[.pointer (some ⟨r, 0, none⟩), .slice a n c] w (StepR (.int .i64 N) H' m col w r) := by
  have HH := Lib.hid h
  have HR := Lib.hid hR
  have HRL : Hid (R.length = n) := Lib.hid (by have := hR.1; rw [ints_length] at this; omega)
  obtain ⟨sz, hsz⟩ : ∃ sz, sz = H.length := ⟨_, rfl⟩
  have HSZ := Lib.hid hsz
  have c1 := h.c1
  rw [← hsz] at c1 hlen9
  clear h hR hsz
  go_enter Try.func66, Try.ntmps66
  go_upto_region 2 with (at_make; refine wpL_make etBoV rfl rfl _ _ rfl sz w.heap.size rfl rfl rfl rfl (by omega) (by simp [maxLen]; omega) (Nat.le_refl _) ?_; intro v3 w3 ho3 hb3 hg3; obtain ⟨gd, od, rfl, hgm⟩ := hg3)
  obtain ⟨col1, hcol1⟩ : ∃ x, x = recol col w.heap.size 9 := ⟨_, rfl⟩
  have F3 : Hid (RfIn col1 w3 r m H gl ol cl cs vs) := Lib.hid (by rw [hcol1]; exact HH.out.st (St.new hb3 (fun _ => False) col 9) (fun _ _ h => h))
  have D3 : Hid (OwnC col1 w3 9 1 (.slice (some ⟨gd, od, none⟩) sz sz) sz (bos (List.replicate sz false))) := Lib.hid (by rw [hcol1, ← bos_replicate]; exact OwnC.new ho3)
  have hcd : col1 gd = 9 := D3.out.2 gd rfl
  have HGM : Hid (w.heap.size ≤ gd) := Lib.hid hgm
  have HB3 := Lib.hid hb3
  have HKN : Hid (∀ wr, Below w.heap.size w wr → St RQ col w col1 wr) := Lib.hid (fun wr hb => by rw [hcol1]; exact St.new hb _ _ _)
  clear hcol1 ho3 hb3 hgm c1 HH
  try go_frame
  go_wp2_with fail
  go_loopw [6] (fun v6 wr => CrR r m gl ol cl gd od sz n cs vs H col1 R w v6 wr) (fun v6 _ => n - (intOf v6).toNat)
  case atStart => exact CrR.mk 0 _ (Nat.zero_le _) rfl (by rw [HSZ.out]; exact Rchs.start H) F3.out D3.out HB3.out
  case round =>
    clear F3 D3 HB3
    obtain ⟨i, S, hi, rfl, HS⟩ := hrel
    by_cases hin : i = n
    · subst hin
      have HS3 : Hid (Rchs H S R) := Lib.hid (by have := HS.out.1; rwa [List.take_of_length_le (by rw [HRL.out]; exact Nat.le_refl _)] at this)
      have F4 := Lib.hid HS.out.2.1
      have D4 := Lib.hid HS.out.2.2.1
      have B4 := Lib.hid HS.out.2.2.2
      clear HS
      go_wp2_with fail
      go_loopw [7] (fun v7 wr => CdR r m gl ol cl gd od sz cs vs H col1 R w v7 wr) (fun v7 _ => sz - (intOf v7).toNat)
      case atStart => exact CdR.mk 0 S (Nat.zero_le _) rfl (by show Rchs H S (R ++ []); rw [List.append_nil]; exact HS3.out) F4.out D4.out B4.out
      case round =>
        clear F4 D4 B4 HS3
        obtain ⟨q, S5, hq, rfl, HQ⟩ := hrel
        have c1 := HQ.out.2.1.c1
        rw [← HSZ.out] at c1
        by_cases hqn : q = sz
        · subst hqn
          have HS5 : Hid (Rchs H S5 (R ++ dirtyL H)) := Lib.hid (by have := HQ.out.1; rw [HSZ.out] at this; exact this)
          have F5 := Lib.hid HQ.out.2.1
          have D5 := Lib.hid HQ.out.2.2.1
          have K5 := Lib.hid (HKN.out _ HQ.out.2.2.2)
          clear HQ
          obtain ⟨sz, hsz2⟩ : ∃ s, s = q := ⟨_, rfl⟩
          rw [← hsz2] at HSZ c1 D5 hlen9 ⊢
          clear hsz2 hq
          go_wp2_with fail
          go_loopw [8, 9] (fun v8 v9 wr => CcR r m gl ol cl gd od sz H S5 col col1 w v8 v9 wr) (fun _ v9 _ => sz - (intOf v9).toNat)
          case atStart => exact CcR.mk 0 0 H cs vs (Nat.zero_le _) (Nat.le_refl _) rfl rfl (Cl.start H S5) rfl F5.out D5.out K5.out
          case round =>
            clear F5 D5 K5
            obtain ⟨i, T, Hi, cs5, vs5, hi, hT, rfl, rfl, HC⟩ := hrel
            have HLH : Hid (sz = Hi.length) := Lib.hid (by rw [HC.out.1.len]; exact HSZ.out)
            have c1 := HC.out.2.2.1.c1
            rw [← HLH.out] at c1
            by_cases hin : i = sz
            · subst hin
              have HE : Hid (Hi = collectH H R) := Lib.hid (by have := HC.out.1; rw [HSZ.out] at this; exact this.end_ hg.out HS5.out)
              obtain rfl : N = (T : Nat) := by
                rw [hN.out, hH.out]
                have h1 := want_all HS5.out
                have h2 := HC.out.2.1
                rw [HSZ.out] at h2
                omega
              go_wp2_with fail
              go_ret
              exact ⟨rfl, col1, HC.out.2.2.2.2, by rw [hH.out, ← HE.out]; exact HC.out.2.2.1.at⟩
            have hlt : i < sz := by omega
            have hlt' : (i : Int) < sz := by omega
            have HIL : Hid (i < Hi.length) := Lib.hid (by rw [← HLH.out]; exact hlt)
            obtain ⟨d0, d1, d2, d3, d4, d5, d6⟩ := HC.out.2.2.1.all HIL.out
            rw [HC.out.1.still] at d4
            have hds : wr.cell? ⟨gd, od + i, none⟩ = some (.bool (S5.getD i false)) := by
              have h1 := HC.out.2.2.2.1.1.get i (by rw [HC.out.2.2.2.1.1.1]; omega)
              have hl := HC.out.2.2.2.1.1.1
              rw [bos_length] at hl
              rwa [bos_get _ _ (by omega)] at h1
            have HW : Hid (wantN H S5 (i + 1) = T + if (H.getD i noTh).is && !S5.getD i false then 1 else 0) := Lib.hid (by rw [want_next, HC.out.2.1, thAt_nat])
            clear d0 d1 d2 d3 d5 d6
            cases hI : (H.getD i noTh).is with
            | false =>
              rw [hI] at d4 HW
              have HNX := Lib.hid (HC.out.1.skip (by rw [hI]; simp))
              clear hI hds
              go_wp2_with fail
              exact ⟨CcR.mk (i + 1) T Hi cs5 vs5 hlt (by omega) (by go_num) rfl HNX.out HW.out.symm HC.out.2.2.1 HC.out.2.2.2.1 HC.out.2.2.2.2, by simp [intOf]; omega⟩
            | true =>
              rw [hI] at d4 HW
              cases hS : S5.getD i false with
              | true =>
                rw [hS] at hds HW
                have HNX := Lib.hid (HC.out.1.skip (by rw [hS]; simp))
                clear hI hS
                go_wp2_with fail
                exact ⟨CcR.mk (i + 1) T Hi cs5 vs5 hlt (by omega) (by go_num) rfl HNX.out HW.out.symm HC.out.2.2.1 HC.out.2.2.2.1 HC.out.2.2.2.2, by simp [intOf]; omega⟩
              | false =>
                rw [hS] at hds HW
                have HNX := Lib.hid (HC.out.1.go (by rw [← HC.out.1.len]; exact HIL.out) ⟨hI, hS⟩)
                clear hI hS
                have hob := HC.out.2.2.1.own.1
                rw [← HLH.out] at hob
                have hlen7 : i * 7 + [Value.int .u8 0, .int .i64 0, .slice none 0 0, .string ⟨#[]⟩, .bool false, .int .i64 0, .bool false].length ≤ cs5.length := by have := hob.1; simp only [List.length_cons, List.length_nil]; omega
                go_upto_region 17 with (refine wpL_storeOwnS rfl _ _ _ rfl (cs := [.int .u8 0, .int .i64 0, .slice none 0 0, .string ⟨#[]⟩, .bool false, .int .i64 0, .bool false]) rfl rfl (by simp [Value.oneCell']) (by kernel_rfl) hob (i * 7) rfl hlen7 ?_; intro w8 hg8 ho8)
                rw [HLH.out] at ho8
                obtain ⟨f1, f2⟩ := HC.out.2.2.1.clear HIL.out hg8 ho8
                have F1 := Lib.hid f1
                have F2 := Lib.hid (HC.out.2.2.2.2.trans f2)
                have FD := Lib.hid (HC.out.2.2.2.1.st f2 rq9)
                clear f1 f2 hg8 ho8 hob hlen7 c1 d4 hds
                go_wp2_with fail
                exact ⟨CcR.mk (i + 1) (T + 1) _ _ _ hlt (by omega) (by go_num) (by go_num) HNX.out HW.out.symm F1.out FD.out F2.out, by simp [intOf]; omega⟩
        have hql : q < sz := by omega
        have hql' : (q : Int) < sz := by omega
        have HQL : Hid (q < H.length) := Lib.hid (by rw [← HSZ.out]; exact hql)
        obtain ⟨d0, d1, d2, d3, d4, d5, d6⟩ := HQ.out.2.1.all HQL.out
        have HX := Lib.hid (dirTo_next H q)
        generalize (H.getD q noTh).is = I at d4 HX
        generalize (H.getD q noTh).dirty = DD at d6 HX
        clear d0 d1 d2 d3 d5
        cases I with
        | false =>
          go_wp2_with fail
          exact ⟨CdR.mk (q + 1) S5 hql (by go_num) (by rw [HX.out]; simpa using HQ.out.1) HQ.out.2.1 HQ.out.2.2.1 HQ.out.2.2.2, by simp [intOf]; omega⟩
        | true =>
          cases DD with
          | false =>
            go_wp2_with fail
            exact ⟨CdR.mk (q + 1) S5 hql (by go_num) (by rw [HX.out]; simpa using HQ.out.1) HQ.out.2.1 HQ.out.2.2.1 HQ.out.2.2.2, by simp [intOf]; omega⟩
          | true =>
            go_wp2_with fail
            refine (reachR_any r m gl ol cl gd od sz cs vs H col1 hwf hg hm hcd HSZ hlen9 (unm S5 + 1) S5 (q : Nat) wr (Nat.lt_succ_self _) (Lib.hid HQ.out.2.1) (Lib.hid HQ.out.2.2.1) (Lib.hid HQ.out.1.len)).mono ?_
            rintro e w5 ⟨rfl, S6, H5⟩
            clear c1 d4 d6
            go_wp2_with fail
            exact ⟨CdR.mk (q + 1) S6 hql (by go_num) (by rw [HX.out, ← List.append_assoc]; exact HQ.out.1.next H5.out.1) H5.out.2.1 H5.out.2.2.1 (below_mods HQ.out.2.2.2 H5.out.2.2.2 (fun g e => by rw [e]; exact HGM.out) HQ.out.2.2.2.size), by simp [intOf]; omega⟩
    have hlt : i < n := by omega
    have hlt' : (i : Int) < n := by omega
    have hlenR : i < R.length := by rw [HRL.out]; exact hlt
    obtain ⟨b1, o1, u1, ha, hu, hcell⟩ := (HR.out.below HS.out.2.2.2).at (k := i) (by omega)
    rw [ints_get _ _ hlenR] at hu
    cases hu
    subst ha
    obtain ⟨y, hy⟩ : ∃ y, y = R.getD i 0 := ⟨_, rfl⟩
    rw [← hy] at hcell
    have HY := Lib.hid hy
    clear hy
    go_wp2_with fail
    refine (reachR_any r m gl ol cl gd od sz cs vs H col1 hwf hg hm hcd HSZ hlen9 (unm S + 1) S y wr (Nat.lt_succ_self _) (Lib.hid HS.out.2.1) (Lib.hid HS.out.2.2.1) (Lib.hid HS.out.1.len)).mono ?_
    rintro e w5 ⟨rfl, S2, H5⟩
    go_wp2_with fail
    exact ⟨CrR.mk (i + 1) S2 hlt (by go_num) (by rw [take_nextV R hlenR, ← HY.out]; exact HS.out.1.next H5.out.1) H5.out.2.1 H5.out.2.2.1 (below_mods HS.out.2.2.2 H5.out.2.2.2 (fun g e => by rw [e]; exact HGM.out) HS.out.2.2.2.size), by simp [intOf]; omega⟩
end
end Go.Proofs.Ytekmgffjdheifaa
