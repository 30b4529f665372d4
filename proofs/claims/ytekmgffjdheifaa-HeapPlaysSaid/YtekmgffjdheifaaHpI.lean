/-
  What is reached: by definition, and by the heap's worklist. Conditions: the heap reads as one.
-/
import Derived.Test.YtekmgffjdheifaaHpH
namespace Go.Proofs.Ytekmgffjdheifaa
open Go Go.RowKit
set_option linter.unusedVariables false
set_option linter.unusedSimpArgs false
set_option maxRecDepth 100000

/-- what is reached from the roots R -/
inductive Live (H : List Th) (R : List Int) : Int → Prop where
  | root {k : Int} : k ∈ R → (thAt H k).is = true → Live H R k
  | step {x y : Int} : Live H R x → ((2 : UInt8), y) ∈ (thAt H x).o.l → (thAt H y).is = true → Live H R y
theorem Live.is {H : List Th} {R : List Int} {k : Int} (h : Live H R k) : (thAt H k).is = true := by
  cases h with
  | root _ h => exact h
  | step _ _ h => exact h
def oidW (l : List (UInt8 × Int)) : List Int := (l.filter fun x => x.1 == 2).map (·.2)
theorem mem_oidW {l : List (UInt8 × Int)} {y : Int} : y ∈ oidW l ↔ ((2 : UInt8), y) ∈ l := by
  unfold oidW
  constructor
  · intro h
    obtain ⟨x, hx, rfl⟩ := List.mem_map.1 h
    obtain ⟨h1, h2⟩ := List.mem_filter.1 hx
    have : x.1 = 2 := by simpa using h2
    rw [← this]
    exact h1
  · intro h
    exact List.mem_map.2 ⟨(2, y), List.mem_filter.2 ⟨h, rfl⟩, rfl⟩
theorem oidW_len (l : List (UInt8 × Int)) : (oidW l).length ≤ l.length := by
  unfold oidW
  rw [List.length_map]
  exact List.length_filter_le _ _
theorem oidW_snoc (l : List (UInt8 × Int)) (k : Nat) (h : k < l.length) : oidW (l.take (k + 1)) = if (l.getD k (0, 0)).1 = 2 then oidW (l.take k) ++ [(l.getD k (0, 0)).2] else oidW (l.take k) := by
  unfold oidW
  rw [List.take_succ_eq_append_getElem h, List.filter_append, List.map_append, getD_lt h]
  by_cases e : l[k].1 = 2
  · simp [e]
  · simp [e]
/-- a worklist's state -/
structure WL (H : List Th) (R ss St : List Int) : Prop where
  a : ∀ k ∈ ss, Live H R k
  b : ∀ y ∈ St, (thAt H y).is = true → Live H R y
  c : ∀ k ∈ R, (thAt H k).is = true → k ∈ ss ∨ k ∈ St
  d : ∀ x ∈ ss, ∀ y, ((2 : UInt8), y) ∈ (thAt H x).o.l → (thAt H y).is = true → y ∈ ss ∨ y ∈ St
theorem WL.start (H : List Th) (R : List Int) : WL H R [] R := ⟨by simp, fun y h1 h2 => .root h1 h2, fun k h _ => .inr h, by simp⟩
theorem WL.skip {H : List Th} {R ss St : List Int} {k : Int} (h : WL H R ss (St ++ [k])) (hk : k ∈ ss ∨ (thAt H k).is = false) : WL H R ss St := by
  have key : ∀ y, (thAt H y).is = true → y ∈ ss ∨ y ∈ St ++ [k] → y ∈ ss ∨ y ∈ St := fun y hy h => by
    rcases h with h | h
    · exact .inl h
    · rcases List.mem_append.1 h with h | h
      · exact .inr h
      · obtain rfl := List.mem_singleton.1 h
        rcases hk with hk | hk
        · exact .inl hk
        · rw [hk] at hy; cases hy
  exact ⟨h.a, fun y hy => h.b y (List.mem_append.2 (.inl hy)), fun x hx hi => key x hi (h.c x hx hi), fun x hx y hy hi => key y hi (h.d x hx y hy hi)⟩
theorem WL.visit {H : List Th} {R ss St : List Int} {k : Int} (h : WL H R ss (St ++ [k])) (hk : (thAt H k).is = true) : WL H R (putK ss k) (St ++ oidW (thAt H k).o.l) := by
  have hL : Live H R k := h.b k (by simp) hk
  have key : ∀ y, y ∈ ss ∨ y ∈ St ++ [k] → y ∈ putK ss k ∨ y ∈ St ++ oidW (thAt H k).o.l := fun y h => by
    rcases h with h | h
    · exact .inl (mem_putK.2 (.inl h))
    · rcases List.mem_append.1 h with h | h
      · exact .inr (List.mem_append.2 (.inl h))
      · exact .inl (mem_putK.2 (.inr (List.mem_singleton.1 h)))
  refine ⟨fun x hx => ?_, fun y hy hi => ?_, fun x hx hi => key x (h.c x hx hi), fun x hx y hy hi => ?_⟩
  · rcases mem_putK.1 hx with hx | rfl
    · exact h.a x hx
    · exact hL
  · rcases List.mem_append.1 hy with hy | hy
    · exact h.b y (List.mem_append.2 (.inl hy)) hi
    · exact .step hL (mem_oidW.1 hy) hi
  · rcases mem_putK.1 hx with hx | rfl
    · exact key y (h.d x hx y hy hi)
    · exact .inr (List.mem_append.2 (.inr (mem_oidW.2 hy)))
theorem WL.done {H : List Th} {R ss : List Int} (h : WL H R ss []) (k : Int) : k ∈ ss ↔ Live H R k := by
  refine ⟨h.a k, fun hk => ?_⟩
  induction hk with
  | root h1 h2 => exact (h.c _ h1 h2).resolve_right (by simp)
  | step _ h1 h2 ih => exact (h.d _ ih _ h1 h2).resolve_right (by simp)
/-- how much may still come -/
def pot (H : List Th) (ss : List Int) : Nat := ((List.range H.length).map fun (i : Nat) => if (i : Int) ∈ ss then 0 else (H.getD i noTh).o.l.length).sum
theorem sum_map_le {f g : Nat → Nat} : ∀ l : List Nat, (∀ i ∈ l, f i ≤ g i) → (l.map f).sum ≤ (l.map g).sum
  | [], _ => Nat.le_refl _
  | x :: l, h => by
    have := sum_map_le l (fun i hi => h i (by simp [hi]))
    have := h x (by simp)
    simp
    omega
theorem sum_map_lt {f g : Nat → Nat} {k d : Nat} : ∀ l : List Nat, (∀ i ∈ l, f i ≤ g i) → k ∈ l → f k + d ≤ g k → (l.map f).sum + d ≤ (l.map g).sum
  | [], _, h, _ => by simp at h
  | x :: l, h, hk, hd => by
    have h1 := h x (by simp)
    rcases List.mem_cons.1 hk with rfl | hk
    · have := sum_map_le l (fun i hi => h i (by simp [hi]))
      simp
      omega
    · have := sum_map_lt (k := k) (d := d) l (fun i hi => h i (by simp [hi])) hk hd
      simp
      omega
theorem pot_put {H : List Th} {ss : List Int} {k : Int} (hk : (thAt H k).is = true) (hn : k ∉ ss) : pot H (putK ss k) + (thAt H k).o.l.length ≤ pot H ss := by
  obtain ⟨i, rfl, hl, e⟩ := thAt_is hk
  rw [e]
  refine sum_map_lt (k := i) _ (fun j _ => ?_) (List.mem_range.2 hl) ?_
  · by_cases hj : (j : Int) ∈ ss
    · rw [if_pos (mem_putK.2 (.inl hj)), if_pos hj]; exact Nat.le_refl _
    · by_cases hji : (j : Int) = i
      · rw [if_pos (mem_putK.2 (.inr hji))]; exact Nat.zero_le _
      · rw [if_neg (fun h => (mem_putK.1 h).elim hj hji), if_neg hj]; exact Nat.le_refl _
  · rw [if_pos (mem_putK.2 (.inr rfl)), if_neg hn]
    omega
theorem pot_congr {H : List Th} {ss ss' : List Int} (h : ∀ k, k ∈ ss ↔ k ∈ ss') : pot H ss = pot H ss' := by
  unfold pot
  congr 1
  refine List.map_congr_left fun i _ => ?_
  by_cases hi : (i : Int) ∈ ss
  · rw [if_pos hi, if_pos ((h _).1 hi)]
  · rw [if_neg hi, if_neg (fun e => hi ((h _).2 e))]
theorem pot_le {H : List Th} {m : Nat} (hg : Good H m) : pot H [] ≤ m := by
  refine Nat.le_trans ?_ hg.room
  have : usedH H = ((List.range H.length).map fun i => sz (H.getD i noTh)).sum := by
    unfold usedH
    congr 1
    refine List.ext_getElem (by simp) (fun i h1 h2 => ?_)
    simp at h1
    simp [List.getElem?_eq_getElem h1, sz]
  rw [this]
  refine sum_map_le _ (fun i hi => ?_)
  rw [if_neg (by simp)]
  cases e : (H.getD i noTh).is with
  | false =>
    have := hg.non i (by rw [thAt_nat]; exact e)
    rw [thAt_nat] at this
    rw [this]
    exact Nat.zero_le _
  | true =>
    have := hg.may i (by rw [thAt_nat]; exact e)
    rw [thAt_nat] at this
    rw [show sz (H.getD i noTh) = sizeO (H.getD i noTh).o from if_pos e]
    exact sizeO_words this
/-- read off the world: what a set of keys has -/
noncomputable def potW (H : List Th) (b : Nat) (w : World) : Nat := by
  classical
  exact if h : ∃ ss : List Int, ∃ f, MapIs unitE Try.prog 3 w b ss f then pot H (Classical.choose h) else 0
theorem keys_same {α : Type} {E : Elem α} {P : Program} {K : TypeId} {w : World} {b : Nat} {ss ss' : List Int} {f f' : Int → α} (h : MapIs E P K w b ss f) (h' : MapIs E P K w b ss' f') (k : Int) : k ∈ ss ↔ k ∈ ss' := by
  obtain ⟨D, ⟨es, clock, hb, F, hs, hD⟩, _, _, h1, _⟩ := h
  obtain ⟨D', ⟨es', clock', hb', F', hs', hD'⟩, _, _, h1', _⟩ := h'
  rw [hb] at hb'
  cases hb'
  have : D = D' := hD.trans hD'.symm
  subst this
  have e := (h1 k).symm.trans (h1' k)
  simpa using e
theorem potW_eq {H : List Th} {b : Nat} {w : World} {ss : List Int} {f : Int → Unit} (h : MapIs unitE Try.prog 3 w b ss f) : potW H b w = pot H ss := by
  unfold potW
  have hex : ∃ ss : List Int, ∃ f, MapIs unitE Try.prog 3 w b ss f := ⟨ss, f, h⟩
  rw [dif_pos hex]
  obtain ⟨f', h'⟩ := Classical.choose_spec hex
  exact pot_congr (keys_same h' h)
def lenV : Value → Nat | .slice _ n _ => n | _ => 0
theorem mapTu : Try.prog.underlying 89 = some (.map 3 92) := Try.underlying89
theorem zeroU (w : World) : (zeroValue 92).run Try.prog w = .ok (unitE.val unitE.z) w := by kernel_rfl
theorem ints_lastD {w : World} {base g off cap n : Nat} {l : List Int} {k : Int} (h : Own w base 1 (.slice (some ⟨g, off, none⟩) (n + 1) cap) (n + 1) (ints (l ++ [k]))) : l.length = n ∧ w.cell? ⟨g, off + n, none⟩ = some (.int .i64 k) := by
  have hl := h.1
  rw [ints_length] at hl
  simp at hl
  have := h.get n (by rw [ints_length]; simp; omega)
  refine ⟨hl, ?_⟩
  rw [this, ints_get _ n (by simp; omega)]
  simp [List.getD_eq_getElem?_getD, ← hl]
theorem split_last : ∀ {l : List Int}, l ≠ [] → ∃ l' k, l = l' ++ [k] := fun {l} h => ⟨l.dropLast, l.getLast h, (List.dropLast_concat_getLast h).symm⟩
set_option maxHeartbeats 8000000 in
theorem reached_p {col : Nat → Nat} {w : World} {b m bm bt : Nat} {H : List Th} {ks ts : List Int} {at_ : Int → Option Nat} {tf : Int → Int} (h : HpIn col w b m H bm bt ks at_ ts tf) (hg : Good H m) (hm : m ≤ 16777216) (hlen9 : H.length ≤ 1000000)
    (R : List Int) (a : Option Addr) (n c : Nat) (hR : Sl w 1 (.slice a n c) n (ints R)) (hRw : ∀ k ∈ R, (Lit.int .i64 k).wf = true) (hn9 : n ≤ 2097152) (hWw : ∀ k, ∀ y ∈ (thAt H k).o.l, (Lit.int .i64 y.2).wf = true) :
    Calls Try.prog 50 #[.pointer (some ⟨b, 0, none⟩), .slice a n c] w fun e w' => ∃ bs, e = .returned (.map (some bs)) ∧ ∃ ss f, Hid (w.heap.size ≤ bs ∧ MapIs unitE Try.prog 3 w' bs ss f ∧ (∀ k, k ∈ ss ↔ Live H R k) ∧ Below w.heap.size w w') := by
  have HH := Lib.hid h
  have hmm := @run_makeMap Try.prog
  have HR0 := Lib.hid hR
  have hlenR : R.length = n := by have := hR.1; rw [ints_length] at this; omega
  have HB9 : Hid (R.length + pot H [] ≤ 100000000) := Lib.hid (by have := pot_le hg; omega)
  have HRW := Lib.hid hRw
  have HWW := Lib.hid hWw
  clear h hR hRw hWw
  obtain ⟨bs, hbs⟩ : ∃ x, x = w.heap.size := ⟨_, rfl⟩
  go_enter Try.func50, Try.ntmps50
  go_upto_region 2 with fail
  obtain ⟨w1, hw1⟩ : ∃ x, x = w.alloc (.map #[] 0) := ⟨_, rfl⟩
  rw [← hw1, ← hbs]
  have hb1 : Below w.heap.size w w1 := by rw [hw1]; exact (Below.refl _ _).alloc (Nat.le_refl _) _
  have hm1 : MapIs unitE Try.prog 3 w1 bs [] (fun _ => unitE.z) := by rw [hw1, hbs]; exact MapIs.made unitE Try.prog 3 w
  have hs1 : w1.heap.size = bs + 1 := by rw [hw1, hbs]; simp
  have hbsw : w.heap.size ≤ bs := by rw [hbs]; exact Nat.le_refl _
  clear hw1 hmm
  try go_frame
  go_wp2_with fail
  refine (cloneI_any a n c R w1 (HR0.out.below hb1) (by omega)).mono ?_
  rintro e w2 ⟨v2, rfl, ho2, hb2⟩
  have HM2 := Lib.hid (hm1.below hb2)
  have HB2 := Lib.hid (hb1.trans (hb2.mono hb1.size))
  have HO2 := Lib.hid (ho2.mono (show bs + 1 ≤ w1.heap.size by omega))
  have hs2 : bs + 1 ≤ w2.heap.size := by have := hb2.size; omega
  obtain ⟨a2, c2, rfl⟩ := ho2.form
  clear hm1 hb1 hb2 ho2 hs1 HR0
  have hbm : bm < w.heap.size := HH.out.mp.lt
  have hbbs : b < bs := by have := HH.out.row.lt; omega
  clear hbs
  go_wp2_with fail
  go_loopw [1] (fun v1 wr => ∃ (ss St : List Int) (f : Int → Unit) (a : Option Addr) (n c : Nat), v1 = .slice a n c ∧ Hid (Own wr (bs + 1) 1 (.slice a n c) n (ints St)) ∧ Hid (MapIs unitE Try.prog 3 wr bs ss f) ∧ Hid (Below w.heap.size w wr) ∧ bs + 1 ≤ wr.heap.size ∧ Hid (WL H R ss St ∧ St.length + pot H ss ≤ 100000000 ∧ (∀ k ∈ St, (Lit.int .i64 k).wf = true) ∧ ss.length ≤ 100000000)) (fun v1 wr => lenV v1 + potW H bs wr)
  case atStart => exact ⟨[], R, _, a2, n, c2, rfl, HO2, HM2, HB2, hs2, Lib.hid ⟨WL.start H R, HB9.out, HRW.out, Nat.zero_le _⟩⟩
  case round =>
    obtain ⟨ss, St, f, a, n, c, rfl, HO, HM, HB, hsr, HI⟩ := hrel
    by_cases hn0 : n = 0
    · subst hn0
      have hSt : St = [] := by
        have := HO.out.1
        rw [ints_length] at this
        exact List.eq_nil_of_length_eq_zero (by omega)
      subst hSt
      go_wp2_with fail
      go_ret
      exact ⟨bs, rfl, ss, f, Lib.hid ⟨hbsw, HM.out, HI.out.1.done, HB.out⟩⟩
    obtain ⟨n', rfl⟩ : ∃ n', n = n' + 1 := ⟨n - 1, by omega⟩
    clear hn0
    have hnl : St.length = n' + 1 := by have := HO.out.1; rw [ints_length] at this; omega
    obtain ⟨S, k, rfl⟩ := split_last (l := St) (fun e => by rw [e] at hnl; simp at hnl)
    obtain ⟨g, off, cap, he, hbg, hgl, hnc, hcm, _⟩ := HO.out.open (by omega) (by decide)
    cases he
    obtain ⟨hSl, hcell⟩ := ints_lastD HO.out
    have hn99 : n' ≤ 100000000 := by have := HI.out.2.1; rw [List.length_append] at this; simp at this; omega
    have hkw : (Lit.int .i64 k).wf = true := HI.out.2.2.1 k (by simp)
    have HC := Lib.hid (HH.out.fresh HB.out)
    have hlk := HM.out.look_ok keyInt mapTu (zeroU _) hkw
    have HSL := Lib.hid hSl
    have HF : Hid (Own wr (bs + 1) 1 (.slice (some ⟨g, off, none⟩) n' c) n' (ints S)) := Lib.hid (by
      have := HO.out.front (m := n') (by omega)
      rw [ints_append, Nat.mul_one, List.take_left' (by rw [ints_length]; exact hSl)] at this
      exact this)
    clear hnl hSl hgl
    have HTH := Lib.hid (thing_p HC.out k hkw)
    by_cases hmem : k ∈ ss
    · rw [decide_eq_true hmem] at hlk
      have HMEM := Lib.hid hmem
      clear hmem
      cases hat : at_ k with
      | none =>
        rw [hat, show ptrV none = .pointer none from rfl] at HTH
        go_upto_region 6 with (refine wpL_front etI rfl _ _ rfl (h := n') rfl rfl (by omega) ?_)
        clear hcell
        go_wp2_with fail
        refine HTH.out.mono ?_
        rintro e w4 ⟨rfl, rfl⟩
        go_upto_region 8 with (refine wpL_storeRow rfl _ _ _ rfl (cs := []) rfl rfl (Row.new _ _ _) (by kernel_rfl) rfl rfl ?_; intro w5 hg5 hr5)
        have hb5 : Below wr.heap.size wr w5 := below_grown ((Below.refl _ _).alloc (Nat.le_refl _) _) hg5 (Nat.le_refl _) (by simp)
        have hB5 : Below w.heap.size w w5 := HB.out.trans (hb5.mono HB.out.size)
        clear hg5 hr5 hlk
        try go_frame
        go_wp2_with fail
        refine ⟨⟨ss, S, f, _, n', _, rfl, Lib.hid (HF.out.below hb5), Lib.hid (HM.out.below hb5), Lib.hid hB5, by have := hb5.size; omega, Lib.hid ⟨HI.out.1.skip (.inl HMEM.out), by have := HI.out.2.1; rw [List.length_append] at this; simp at this; omega, fun x hx => HI.out.2.2.1 x (by simp [hx]), HI.out.2.2.2⟩⟩, ?_⟩
        rw [potW_eq HM.out, potW_eq (HM.out.below hb5)]
        simp only [lenV]
        omega
      | some gx =>
        rw [hat, show ptrV (some gx) = .pointer (some ⟨gx, 0, none⟩) from rfl] at HTH
        go_upto_region 6 with (refine wpL_front etI rfl _ _ rfl (h := n') rfl rfl (by omega) ?_)
        clear hcell
        go_wp2_with fail
        refine HTH.out.mono ?_
        rintro e w4 ⟨rfl, rfl⟩
        go_upto_region 8 with (refine wpL_storeRow rfl _ _ _ rfl (cs := []) rfl rfl (Row.new _ _ _) (by kernel_rfl) rfl rfl ?_; intro w5 hg5 hr5)
        have hb5 : Below wr.heap.size wr w5 := below_grown ((Below.refl _ _).alloc (Nat.le_refl _) _) hg5 (Nat.le_refl _) (by simp)
        have hB5 : Below w.heap.size w w5 := HB.out.trans (hb5.mono HB.out.size)
        clear hg5 hr5 hlk
        try go_frame
        go_wp2_with fail
        refine ⟨⟨ss, S, f, _, n', _, rfl, Lib.hid (HF.out.below hb5), Lib.hid (HM.out.below hb5), Lib.hid hB5, by have := hb5.size; omega, Lib.hid ⟨HI.out.1.skip (.inl HMEM.out), by have := HI.out.2.1; rw [List.length_append] at this; simp at this; omega, fun x hx => HI.out.2.2.1 x (by simp [hx]), HI.out.2.2.2⟩⟩, ?_⟩
        rw [potW_eq HM.out, potW_eq (HM.out.below hb5)]
        simp only [lenV]
        omega
    · rw [decide_eq_false hmem] at hlk
      have HMEM := Lib.hid hmem
      clear hmem
      cases hi : (thAt H k).is with
      | false =>
        have hat : at_ k = none := HC.out.non hi
        rw [hat, show ptrV none = .pointer none from rfl] at HTH
        have HIS := Lib.hid hi
        clear hi
        go_upto_region 6 with (refine wpL_front etI rfl _ _ rfl (h := n') rfl rfl (by omega) ?_)
        clear hcell
        go_wp2_with fail
        refine HTH.out.mono ?_
        rintro e w4 ⟨rfl, rfl⟩
        go_upto_region 8 with (refine wpL_storeRow rfl _ _ _ rfl (cs := []) rfl rfl (Row.new _ _ _) (by kernel_rfl) rfl rfl ?_; intro w5 hg5 hr5)
        have hb5 : Below wr.heap.size wr w5 := below_grown ((Below.refl _ _).alloc (Nat.le_refl _) _) hg5 (Nat.le_refl _) (by simp)
        have hB5 : Below w.heap.size w w5 := HB.out.trans (hb5.mono HB.out.size)
        clear hg5 hr5 hlk
        try go_frame
        go_wp2_with fail
        refine ⟨⟨ss, S, f, _, n', _, rfl, Lib.hid (HF.out.below hb5), Lib.hid (HM.out.below hb5), Lib.hid hB5, by have := hb5.size; omega, Lib.hid ⟨HI.out.1.skip (.inr HIS.out), by have := HI.out.2.1; rw [List.length_append] at this; simp at this; omega, fun x hx => HI.out.2.2.1 x (by simp [hx]), HI.out.2.2.2⟩⟩, ?_⟩
        rw [potW_eq HM.out, potW_eq (HM.out.below hb5)]
        simp only [lenV]
        omega
      | true =>
        obtain ⟨gx, vx, hat, hthx⟩ := HH.out.has hi
        rw [hat, show ptrV (some gx) = .pointer (some ⟨gx, 0, none⟩) from rfl] at HTH
        have HIS := Lib.hid hi
        have hmay := hg.may k hi
        have hwl := sizeO_words hmay
        have hz : sizeO (thAt H k).o ≤ m := by
          have h1 := sz_le (H := H) k
          have h2 := hg.room
          rw [show sz (thAt H k) = sizeO (thAt H k).o from if_pos hi] at h1
          omega
        obtain ⟨L, hL⟩ : ∃ L, L = (thAt H k).o.l := ⟨_, rfl⟩
        have hown := hthx.own.1
        have d2 := hthx.cell 2
        simp only [thRow, List.getElem?_cons_zero, List.getElem?_cons_succ] at d2
        rw [← hL] at hown hwl
        have HL := Lib.hid hL
        obtain ⟨nw, hnw⟩ : ∃ nw, nw = L.length := ⟨_, rfl⟩
        rw [← hnw] at hown hwl
        have HNW := Lib.hid hnw
        obtain ⟨aw, cw, rfl⟩ := hown.form
        have hnw9 : nw ≤ 16777216 := by omega
        have HSW := Lib.hid hown.sl
        have HD2 := Lib.hid d2
        clear hi hmay hwl hz hL hnw hown hthx hat d2
        go_upto_region 6 with (refine wpL_front etI rfl _ _ rfl (h := n') rfl rfl (by omega) ?_)
        clear hcell
        go_wp2_with fail
        refine HTH.out.mono ?_
        rintro e w4 ⟨rfl, rfl⟩
        go_upto_region 8 with (refine wpL_storeRow rfl _ _ _ rfl (cs := []) rfl rfl (Row.new _ _ _) (by kernel_rfl) rfl rfl ?_; intro w5 hg5 hr5)
        have hb5 : Below wr.heap.size wr w5 := below_grown ((Below.refl _ _).alloc (Nat.le_refl _) _) hg5 (Nat.le_refl _) (by simp)
        have hB5 : Below w.heap.size w w5 := HB.out.trans (hb5.mono HB.out.size)
        clear hg5 hr5 hlk
        try go_frame
        have hmp : MapIs unitE Try.prog 3 w5 bs ss f := HM.out.below hb5
        have hss : ss.length < maxLen := by have := HI.out.2.2.2; simp only [maxLen]; omega
        go_upto_region 10 with (at_mapUpdate; refine wpL_put hmp keyInt mapTu hss rfl _ _ _ rfl rfl rfl hkw () rfl ?_; intro w6 hm6 hg6)
        have hB6 := hB5.grown hg6 hB5.size (fun x e => by cases e; exact hbsw)
        have HM6 := Lib.hid hm6
        have HO6 := Lib.hid ((HF.out.below hb5).kept hg6 (own_ne HF.out (Nat.lt_succ_self bs)))
        have HB6 := Lib.hid hB6
        have hs6 : bs + 1 ≤ w6.heap.size := by have := hb5.size; have := hg6.size; omega
        have e2 : w6.cell? ⟨gx, 2, none⟩ = some (.slice aw nw cw) := (HB6.out.cell (p := ⟨gx, 2, none⟩) (lt_of_cell HD2.out)).trans HD2.out
        clear hm6 hg6 hB6 hB5 hb5 hmp hss
        go_wp2_with fail
        go_loopw [1, 52] (fun v1 v52 wr => ∃ (j : Nat) (a : Option Addr) (n c : Nat), j ≤ nw ∧ v52 = .int .i64 (j : Nat) ∧ v1 = .slice a n c ∧ n ≤ n' + j ∧ Hid (Own wr (bs + 1) 1 (.slice a n c) n (ints (S ++ oidW (L.take j)))) ∧ Hid (MapIs unitE Try.prog 3 wr bs (putK ss k) (upd f k ())) ∧ Hid (Below w.heap.size w wr) ∧ bs + 1 ≤ wr.heap.size) (fun _ v52 _ => nw - (intOf v52).toNat)
        case atStart => exact ⟨0, _, n', _, Nat.zero_le _, rfl, rfl, Nat.le_refl _, Lib.hid (by simpa [oidW] using HO6.out), HM6, HB6, hs6⟩
        case round =>
          clear HO6 HM6 HB6 hs6 e2
          obtain ⟨j, a, n, c, hj, rfl, rfl, hnj, HO, HMM, HBB, hsr2⟩ := hrel
          by_cases hjn : j = nw
          · subst hjn
            go_wp2_with fail
            have hl1 : (L.take j) = L := List.take_of_length_le (by rw [HNW.out]; exact Nat.le_refl _)
            have hpp := pot_put HIS.out HMEM.out
            rw [← HL.out, ← HNW.out] at hpp
            have HO' := HO.out
            rw [hl1] at HO'
            have hol := oidW_len L
            rw [← HNW.out] at hol
            have hon := HO'.1
            rw [ints_length, List.length_append, Nat.mul_one, HSL.out] at hon
            refine ⟨⟨putK ss k, S ++ oidW L, _, a, n, c, rfl, Lib.hid HO', HMM, HBB, hsr2, Lib.hid ⟨by rw [HL.out]; exact HI.out.1.visit HIS.out, ?_, ?_, ?_⟩⟩, ?_⟩
            · have h1 := HI.out.2.1
              rw [List.length_append, HSL.out] at h1
              simp at h1
              rw [List.length_append, HSL.out]
              omega
            · intro y hy
              rcases List.mem_append.1 hy with hy | hy
              · exact HI.out.2.2.1 y (by simp [hy])
              · rw [HL.out] at hy
                exact HWW.out k _ (mem_oidW.1 hy)
            · have h1 := nodup_few 1000000 (putK ss k) HMM.out.nodup (fun x hx => by
                have h2 := ((HI.out.1.visit HIS.out).a x hx).is
                obtain ⟨i, rfl, hi, _⟩ := thAt_is h2
                have := hg.pos h2
                omega)
              omega
            · rw [potW_eq HM.out, potW_eq HMM.out]
              simp only [lenV]
              omega
          have hjlt : j < nw := by omega
          have hjlt' : (j : Int) < nw := by omega
          obtain ⟨b1, o1, rfl, hc1, hc2⟩ := (HSW.out.below HBB.out).word hjlt
          have HSN := Lib.hid (oidW_snoc L j (by rw [← HNW.out]; exact hjlt))
          have HQ : Hid ((L.getD j (0, 0)).1 = 2 ↔ (L.getD j (0, 0)).1.toNat = 2) := Lib.hid u8_eq
          generalize hz : (L.getD j (0, 0)).2 = z at hc2 HSN
          generalize hq : (L.getD j (0, 0)).1.toNat = q at hc1 HQ
          clear hz hq
          by_cases hq2 : q = 2
          · subst hq2
            have HS2 : Hid (oidW (L.take (j + 1)) = oidW (L.take j) ++ [z]) := Lib.hid (by rw [HSN.out, if_pos (HQ.out.2 rfl)])
            clear HSN HQ
            go_upto_region 13 with (refine wpL_storeRow rfl _ _ _ rfl (cs := [.int .u8 2, .int .i64 z]) rfl rfl (Row.new _ _ _) (by kernel_rfl) rfl rfl ?_; intro w7 hg7 hr7)
            have hb7 : Below wr.heap.size wr w7 := below_grown ((Below.refl _ _).alloc (Nat.le_refl _) _) hg7 (Nat.le_refl _) (by simp)
            have f0 : w7.cell? ⟨wr.heap.size, 0, none⟩ = some (.int .u8 2) := hr7.cell 0
            have f1 : w7.cell? ⟨wr.heap.size, 1, none⟩ = some (.int .i64 z) := hr7.cell 1
            have ho8 := (HO.out.below hb7).alloc (.cells #[.int .i64 z] 3)
            have hs8 : Sl (w7.alloc (.cells #[.int .i64 z] 3)) 1 (.slice (some ⟨w7.heap.size, 0, none⟩) 1 1) 1 [.int .i64 z] := Sl.one w7 _ _
            have hb8 : Below wr.heap.size wr (w7.alloc (.cells #[.int .i64 z] 3)) := hb7.alloc hb7.size _
            have hsz8 : bs + 1 ≤ (w7.alloc (.cells #[.int .i64 z] 3)).heap.size := by have := hb8.size; omega
            clear hg7 hr7
            go_wp2_with (at_builtin; refine wpL_append etI rfl _ _ rfl ho8 rfl hs8 rfl (by simp [Value.oneCell']) (by omega) (by simp [maxLen]; omega) hsz8 ?_; intro v9 w9 ho9 hg9; obtain ⟨a9, c9, rfl⟩ := ho9.form)
            have hB8 := HBB.out.trans (hb8.mono HBB.out.size)
            have hB9 := hB8.grown hg9 hB8.size (fun x e => by have := ho8.lt x e; omega)
            refine ⟨⟨j + 1, a9, n + 1, c9, by omega, by go_num, rfl, by omega, Lib.hid ?_, Lib.hid ((HMM.out.below hb8).kept hg9 (fun e => by have := ho8.lt bs e.symm; omega)), Lib.hid hB9, by have := hg9.size; omega⟩, by simp [intOf]; omega⟩
            rw [HS2.out, ← List.append_assoc, ints_append]
            exact ho9
          · have hq0 : ((q : Int) == 2) = false := by rw [beq_eq_false_iff_ne]; omega
            have HS2 : Hid (oidW (L.take (j + 1)) = oidW (L.take j)) := Lib.hid (by rw [HSN.out, if_neg (fun e => hq2 (HQ.out.1 e))])
            clear HSN HQ hq2
            go_upto_region 13 with (refine wpL_storeRow rfl _ _ _ rfl (cs := [.int .u8 (q : Int), .int .i64 z]) rfl rfl (Row.new _ _ _) (by kernel_rfl) rfl rfl ?_; intro w7 hg7 hr7)
            have hb7 : Below wr.heap.size wr w7 := below_grown ((Below.refl _ _).alloc (Nat.le_refl _) _) hg7 (Nat.le_refl _) (by simp)
            have f0 : w7.cell? ⟨wr.heap.size, 0, none⟩ = some (.int .u8 (q : Int)) := hr7.cell 0
            clear hg7 hr7
            go_wp2_with fail
            exact ⟨⟨j + 1, a, n, c, by omega, by go_num, rfl, by omega, Lib.hid (by rw [HS2.out]; exact HO.out.below hb7), Lib.hid (HMM.out.below hb7), Lib.hid (HBB.out.trans (hb7.mono HBB.out.size)), by have := hb7.size; omega⟩, by simp [intOf]; omega⟩
end Go.Proofs.Ytekmgffjdheifaa
