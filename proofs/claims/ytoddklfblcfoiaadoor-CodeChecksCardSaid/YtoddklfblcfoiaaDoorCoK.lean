/-
  The prims' table, as the card lays it; Takes, walked. Condition: the table as laid.
-/
import Derived.Test.YtoddklfblcfoiaaDoorCoC
import Derived.Test.YtoddklfblcfoiaaDoorSep
import Derived.Test.YtoddklfblcfoiaaDoorGen
import Derived.Maps.RangeWalk
import Derived.WideKeyElems2
import Derived.MakeChecks
namespace Go.Proofs.YtoddklfblcfoiaaDoor
open Go Go.RowKit Go.Maps
set_option linter.unusedVariables false
set_option linter.unusedSimpArgs false
set_option maxRecDepth 100000

def P1 : List (List UInt8) := [[112, 114, 105, 110, 116], [105, 116, 111, 115], [115, 105, 122, 101], [110, 111, 116], [114, 101, 102], [108, 101, 110], [99, 111, 109, 109, 105, 116], [97, 98, 111, 114, 116], [126], [33]]
def P2 : List (List UInt8) := [[115, 97, 109, 101], [97, 114, 114, 97, 121], [103, 101, 116], [43], [45], [42], [100, 105, 118], [109, 111, 100], [60], [60, 61], [62], [62, 61], [61], [60, 62], [94], [58, 61]]
def P3 : List (List UInt8) := [[112, 117, 116]]
def takesN (s : List UInt8) : Nat := if s ∈ P1 then 1 else if s ∈ P2 then 2 else if s ∈ P3 then 3 else 0
def takesB (s : List UInt8) : Bool := decide (s ∈ P1) || decide (s ∈ P2) || decide (s ∈ P3)
def tabP (k : Int) : List (List UInt8) := if k = 1 then P1 else if k = 2 then P2 else if k = 3 then P3 else []
theorem takes_in {s : List UInt8} {k : Int} (h : s ∈ tabP k) : takesN s = k ∧ takesB s = true := by
  have h12 : ∀ x ∈ P2, x ∉ P1 := by decide
  have h13 : ∀ x ∈ P3, x ∉ P1 := by decide
  have h23 : ∀ x ∈ P3, x ∉ P2 := by decide
  unfold tabP at h
  split at h
  · rename_i e; subst e
    exact ⟨by rw [takesN, if_pos h]; rfl, by simp [takesB, h]⟩
  · split at h
    · rename_i e; subst e
      exact ⟨by rw [takesN, if_neg (h12 s h), if_pos h]; rfl, by simp [takesB, h]⟩
    · split at h
      · rename_i e; subst e
        exact ⟨by rw [takesN, if_neg (h13 s h), if_neg (h23 s h), if_pos h]; rfl, by simp [takesB, h]⟩
      · simp at h
theorem takes_out {s : List UInt8} (h1 : s ∉ tabP 1) (h2 : s ∉ tabP 2) (h3 : s ∉ tabP 3) : takesN s = 0 ∧ takesB s = false := by
  have h1 : s ∉ P1 := h1
  have h2 : s ∉ P2 := h2
  have h3 : s ∉ P3 := h3
  exact ⟨by rw [takesN, if_neg h1, if_neg h2, if_neg h3], by simp [takesB, h1, h2, h3]⟩
def strs (l : List (List UInt8)) : List Value := l.map fun s => .string (str s)
theorem strs_of {W : World} {base : Nat} {held : Bool} {fuel : Nat} {v : Value} {x : DataW Unit × List MemPlace} {L : List (List UInt8)} (h : DataW.trod (fun _ => ()) Tryd.prog W base (fun _ => true) held fuel 92 [v] = some x) (hx : x.1 = .slice (L.map fun s => .lit (.string s)) []) : Sl W 1 v L.length (strs L) := by
  rcases DataW.trod_slice Tryd.underlying92 h with ⟨hcs, hx0⟩ | ⟨a, len, cap, elems, rest, n, _, hcs, hx0, hb, hl, hm, hlen, hel, _⟩
  · rw [hx0] at hx; cases hx
  · cases hcs
    rw [hx0] at hx
    have he : elems.map (·.1) = L.map fun s => .lit (.string s) := by injection hx
    have hL : len = L.length := by rw [← hlen]; have := congrArg List.length he; simpa using this
    have hcells : Tryd.prog.cellsOf 9 = 1 := by kernel_rfl
    have key : ∀ i (hi : i < L.length), ∃ b off, a = ⟨b, off, none⟩ ∧ W.cell? ⟨b, off + i, none⟩ = some (.string (str L[i])) := by
      intro i hi
      have h1 := hel i (by omega)
      rw [List.getElem?_eq_getElem (by omega)] at h1
      obtain ⟨cs, hcs, hxs⟩ := Option.bind_eq_some_iff.1 h1
      obtain ⟨s, rfl, hs, _⟩ := DataW.trod_string Tryd.underlying9 hxs
      obtain ⟨_, _, hcell⟩ := World.cells?_some hcs
      have h0 := hcell 0 (by rw [hcells]; decide)
      rw [hcells] at h0
      simp only [Nat.mul_one, List.getElem?_cons_zero] at h0
      obtain ⟨b, off, spot⟩ := a
      have hsp : spot = none := by
        have g1 := hel 0 (by omega)
        rw [List.getElem?_eq_getElem (by omega)] at g1
        obtain ⟨cs2, hcs2, hx2⟩ := Option.bind_eq_some_iff.1 g1
        obtain ⟨s2, rfl, _, _⟩ := DataW.trod_string Tryd.underlying9 hx2
        obtain ⟨_, _, hcell2⟩ := World.cells?_some hcs2
        have h00 := hcell2 0 (by rw [hcells]; decide)
        rw [hcells] at h00
        exact World.cell?_spot h00
      subst hsp
      refine ⟨b, off, rfl, ?_⟩
      have hi2 : (elems.map (·.1))[i]? = (L.map fun s => (DataW.lit (.string s) : DataW Unit))[i]? := by rw [he]
      rw [List.getElem?_map, List.getElem?_map, List.getElem?_eq_getElem (by omega), List.getElem?_eq_getElem hi] at hi2
      simp only [Option.map_some, Option.some.injEq] at hi2
      rw [hs] at hi2
      have hs2 : s.data.toList = L[i] := by injection hi2 with hi2; injection hi2
      rw [add_eq, add_eq, Nat.add_zero] at h0
      rw [h0, ← hs2, str_data]
    subst hL
    refine ⟨by simp [strs], some a, cap, rfl, hl, hm, by simp, fun j u hu => ?_⟩
    have hj : j < L.length := by have := (List.getElem?_eq_some_iff.1 hu).1; simpa [strs] using this
    obtain ⟨b, off, rfl, hc⟩ := key j hj
    refine ⟨b, off, rfl, ?_⟩
    rw [hc]
    simp [strs, hj] at hu
    rw [hu]
abbrev primsL : List (String × DataW Unit) := [("aumbry/code.prims", Rows.laid_aumbry_code_prims)]
abbrev primsD : DataW Unit := Rows.laid_aumbry_code_prims
noncomputable def primsE (W : World) (fuel : Nat) : Value → Option (DataW Unit × List MemPlace) := WideElems.elemAt (fun _ => ()) Tryd.prog W 0 (fun _ => true) false fuel 92
theorem primsE_inv {W : World} {fuel : Nat} {v : Value} {y : DataW Unit × List MemPlace} (h : primsE W fuel v = some y) : ∃ c : Option Addr × Nat × Nat, v = .slice c.1 c.2.1 c.2.2 := by
  unfold primsE WideElems.elemAt at h
  split at h
  · rename_i hf
    have hc : ∃ u, v.cells.toList = [u] ∧ ∃ a n c, u = .slice a n c := by
      rcases DataW.trod_slice Tryd.underlying92 h with ⟨hcs, _⟩ | ⟨a, len, cap, _, _, _, _, hcs, _⟩
      · exact ⟨_, hcs, _, _, _, rfl⟩
      · exact ⟨_, hcs, _, _, _, rfl⟩
    obtain ⟨u, hu, a, n, c, rfl⟩ := hc
    refine ⟨(a, n, c), ?_⟩
    unfold Value.formed at hf
    rw [Tryd.underlying92] at hf
    cases v <;> simp [Value.cells] at hu hf ⊢ <;> simp_all
  · cases h
/-- block b holds the prims, as they were read in W -/
def PrimsR (W : World) (b fuel n : Nat) : Prop := W.cell? ⟨0, 0, none⟩ = some (.map (some b)) ∧ W.ownsMap Tryd.prog 3 (primsE W fuel) b n primsD
theorem prims_of {W : World} (h : laidMetH Tryd.prog primsL W) : ∃ b fuel n, PrimsR W b fuel n := by
  rw [MakeChecks.laidMetH_plain _ _ _ (by kernel_rfl)] at h
  obtain ⟨ps, ⟨g, t, cs, fuel, p, q, hg, ht, hv, htr, _, _⟩, _, _⟩ := h
  obtain rfl : g = 0 := Option.some.inj (hg.symm.trans (show Tryd.prog.globalNamed "aumbry/code.prims" = some 0 by kernel_rfl))
  obtain rfl : t = 91 := Option.some.inj (ht.symm.trans (show (Tryd.prog.globals[0]?).map (·.type) = some 91 by kernel_rfl))
  rcases WideElems.open_map Tryd.underlying91 htr with ⟨_, hx⟩ | ⟨b, es, clock, n, rfl, hcs, hb, _, F, hx⟩
  · cases hx
  · refine ⟨b, n, es.size, ?_, es, clock, hb, F, Nat.le_refl _, ?_⟩
    · unfold World.var? at hv
      rw [hg] at hv
      simp only [Option.bind_some] at hv
      split at hv
      · rename_i cs' e' fr' heq
        cases hv
        have hcs' : cs = #[.map (some b)] := by
          apply Array.toList_inj.1; rw [hcs]
        subst hcs'
        simp [World.cell?, heq]
      · cases hv
    · exact (congrArg Prod.fst hx)
theorem key_cases {k : Int} {y : DataW Unit} (h : ∀ zd, primsD.atKey (.int .i64 k) zd = y) : (k = 1 ∨ k = 2 ∨ k = 3) ∧ y = .slice ((tabP k).map fun s => .lit (.string s)) [] := by
  by_cases h1 : k = 1
  · subst h1; exact ⟨.inl rfl, (h .nil).symm.trans rfl⟩
  · by_cases h2 : k = 2
    · subst h2; exact ⟨.inr (.inl rfl), (h .nil).symm.trans rfl⟩
    · by_cases h3 : k = 3
      · subst h3; exact ⟨.inr (.inr rfl), (h .nil).symm.trans rfl⟩
      · exfalso
        have hn : ∀ zd, primsD.atKey (.int .i64 k) zd = zd := by
          intro zd
          have e1 : (Lit.int .i64 1).sameKey (.int .i64 k) = false := sameKey_ne (by intro e; injection e with _ e; exact h1 e.symm)
          have e2 : (Lit.int .i64 2).sameKey (.int .i64 k) = false := sameKey_ne (by intro e; injection e with _ e; exact h2 e.symm)
          have e3 : (Lit.int .i64 3).sameKey (.int .i64 k) = false := sameKey_ne (by intro e; injection e with _ e; exact h3 e.symm)
          simp [primsD, Rows.laid_aumbry_code_prims, DataW.atKey, e1, e2, e3]
        have a1 := (hn .nil).symm.trans (h .nil)
        have a2 := (hn (.lit (.bool true))).symm.trans (h (.lit (.bool true)))
        rw [← a1] at a2
        cases a2
def TakR (W : World) (b fuel n r : Nat) (s : List UInt8) (w wr : World) : Prop :=
  ∃ left cnt, wr.ranges Tryd.prog 3 (primsE W fuel) b r n primsD left cnt ∧ (∀ k : Int, (k = 1 ∨ k = 2 ∨ k = 3) → left (.int .i64 k) = true ∨ s ∉ tabP k) ∧ Below w.heap.size w wr
theorem strs_get {L : List (List UInt8)} {j : Nat} (h : j < L.length) : (strs L)[j]? = some (.string (str L[j])) := by simp [strs, h]
set_option maxHeartbeats 4000000 in
theorem takes_p (W : World) (b fuel n : Nat) (HP : Hid (PrimsR W b fuel n)) (s : List UInt8) (w : World) (hW : Below W.heap.size W w) :
    Calls Tryd.prog 22 #[.string (str s)] w fun e w' => e = .returned (.tuple #[.int .i64 (takesN s : Nat), .bool (takesB s)]) ∧ Below w.heap.size w w' := by
  have HW := Lib.hid hW
  have c0 := (hW.cell (lt_of_cell HP.out.1)).trans HP.out.1
  have hown : w.ownsMap Tryd.prog 3 (primsE W fuel) b n primsD := by
    obtain ⟨es, clock, hb, hr⟩ := HP.out.2
    exact ⟨es, clock, (hW.block b (World.ownsMap.lt HP.out.2)).trans hb, hr⟩
  clear hW
  obtain ⟨r, hr⟩ : ∃ r, r = w.heap.size := ⟨_, rfl⟩
  go_enter Tryd.func22, Tryd.ntmps22
  go_wp2_with (at_range; refine wpList_range_own w rfl _ 91 rfl 3 92 (int_keyed Tryd.underlying3) Tryd.underlying91 (primsE W fuel) b n primsD rfl hown ?_; intro w0 hrg0 hg0 hs0; rw [← hr] at hrg0 ⊢; have HRG := Lib.hid hrg0; have HG0 := Lib.hid hg0; clear hrg0 hg0 hs0 hown c0)
  go_frame
  have hB0 : Below w.heap.size w w0 := ⟨HG0.out.os, HG0.out.tape, HG0.out.output, HG0.out.size, fun j hj => HG0.out.block j hj (by simp)⟩
  have hrw : w.heap.size ≤ r := by rw [hr]; exact Nat.le_refl _
  clear hr
  go_loopw [3] (fun _ wr => Hid (TakR W b fuel n r s w wr)) (fun _ wr => wr.rangeLeft b r)
  case atStart =>
    refine Lib.hid ⟨_, _, HRG.out, fun k hk => ?_, hB0⟩
    rcases hk with rfl | rfl | rfl <;> exact .inl rfl
  case round =>
    clear HRG HG0
    obtain ⟨left, cnt, hrg, hall, hb⟩ := hrel.out
    have HALL := Lib.hid hall
    have HR := Lib.hid hrg
    have HB := Lib.hid hb
    clear hall hrel hb
    go_wp2_with (at_next; refine wpList_next_ranges (α := Int) (β := Option Addr × Nat × Nat) wr rfl _ rfl 3 (int_keyed Tryd.underlying3) (primsE W fuel) (fun x => .int .i64 x) (fun c => .slice c.1 c.2.1 c.2.2) (fun key kl hkey => by obtain ⟨x, rfl, _⟩ := Maps.keyOf_int_inv Tryd.underlying3 hkey; exact ⟨x, rfl⟩) (fun v y hv => primsE_inv hv) b r n primsD left cnt rfl hrg ?_ ?_)
    · intro _ hl
      clear hrg
      have ho := takes_out (s := s) ((HALL.out 1 (.inl rfl)).resolve_left (by rw [hl]; decide)) ((HALL.out 2 (.inr (.inl rfl))).resolve_left (by rw [hl]; decide)) ((HALL.out 3 (.inr (.inr rfl))).resolve_left (by rw [hl]; decide))
      have HO := Lib.hid ho
      clear ho
      go_wp2_with fail
      go_ret2
      exact ⟨by rw [HO.out.1, HO.out.2]; rfl, HB.out⟩
    · intro x a m k kl y0 y1 w2 cnt' hkey hlk hv hat hrg2 hlt2 hg2 hs2 hen
      obtain ⟨x', ex, rfl, hwx⟩ := Maps.keyOf_int_inv Tryd.underlying3 hkey
      cases ex
      have hk := key_cases hat
      have hrlt : r < wr.heap.size := HR.out.lt
      have hb2 : Below w.heap.size w w2 := ⟨hg2.os.trans HB.out.os, hg2.tape.trans HB.out.tape, hg2.output.trans HB.out.output, Nat.le_trans HB.out.size hg2.size, fun j hj => (hg2.block j (Nat.lt_of_lt_of_le hj HB.out.size) (by simp; omega)).trans (HB.out.block j hj)⟩
      have hs : Sl W 1 (.slice a m k) (tabP x).length (strs (tabP x)) := by
        have h1 := hv
        unfold primsE WideElems.elemAt at h1
        split at h1
        · exact strs_of h1 hk.2
        · cases h1
      obtain ⟨L, hL⟩ : ∃ L, L = tabP x := ⟨_, rfl⟩
      rw [← hL] at hs
      have hm := hs.cap
      have hm1 : m = L.length := hm.2.2.1
      have HS := Lib.hid (show Sl w2 1 (.slice a m k) m (strs L) by rw [hm1] at hs ⊢; exact hs.below (HW.out.trans (hb2.mono HW.out.size)))
      have HL := Lib.hid (show m = L.length ∧ L = tabP x from ⟨hm1, hL⟩)
      have hmb : m ≤ 9223372036854775807 := by omega
      have HB2 := Lib.hid hb2
      have HK := Lib.hid hk.1
      have HRG2 := Lib.hid hrg2
      have HLT := Lib.hid (show w2.rangeLeft b r < wr.rangeLeft b r by rw [hrg2.left_eq, HR.out.left_eq]; exact hlt2)
      clear hs hm hm1 hL hk hv hat hkey hlk hrg2 hlt2 hg2 hs2 hrg hrlt hb2
      go_wp2_with fail
      go_loopw [17] (fun v17 wr => ∃ j : Nat, j ≤ m ∧ v17 = .int .i64 (j : Nat) ∧ wr = w2 ∧ Hid (∀ i, i < j → L[i]? ≠ some s)) (fun v17 _ => m - (intOf v17).toNat)
      case atStart => exact ⟨0, Nat.zero_le _, rfl, rfl, Lib.hid (fun i hi => by omega)⟩
      case round =>
        obtain ⟨j, hj, rfl, rfl, HNo⟩ := hrel
        by_cases hjm : j = m
        · have hnot : s ∉ L := fun hmem => by
            obtain ⟨i, hi, hs⟩ := List.getElem_of_mem hmem
            refine HNo.out i (by have := HL.out.1; omega) ?_
            rw [List.getElem?_eq_getElem hi, hs]
          have HNOT := Lib.hid hnot
          clear hnot
          subst hjm
          go_wp2_with fail
          refine ⟨Lib.hid ⟨_, _, HRG2.out, fun q hq => ?_, HB2.out⟩, HLT.out⟩
          by_cases hqx : q = x
          · refine .inr ?_
            rw [hqx, ← HL.out.2]
            exact HNOT.out
          · rcases HALL.out q hq with h | h
            · refine .inl ?_
              rw [sameKey_ne (fun e => hqx (by injection e))]
              simp [h]
            · exact .inr h
        · have hjlt : (j : Int) < m := by omega
          have hjL : j < L.length := by have := HL.out.1; omega
          obtain ⟨g, off, u, rfl, hu, hc⟩ := HS.out.at (k := j) (by omega)
          rw [strs_get hjL] at hu
          cases hu
          by_cases hsj : L[j] = s
          · have hbe : ((str L[j]).toList == (str s).toList) = true := by rw [hsj]; simp
            have htk := takes_in (s := s) (k := x) (by rw [← HL.out.2, ← hsj]; exact List.getElem_mem hjL)
            have HTK := Lib.hid htk
            clear htk hsj
            go_wp2_with fail
            go_ret2
            exact ⟨by rw [HTK.out.1, HTK.out.2]; rfl, HB2.out⟩
          · have hbe : ((str L[j]).toList == (str s).toList) = false := by rw [ByteArray.toList_eq, ByteArray.toList_eq, str_toList, str_toList, beq_eq_false_iff_ne]; exact hsj
            have HSJ := Lib.hid hsj
            clear hsj
            go_wp2_with fail
            refine ⟨⟨j + 1, by omega, by go_num, (by first | rfl | trivial), Lib.hid fun i hi => ?_⟩, by simp [intOf]; omega⟩
            by_cases hij : i = j
            · subst hij
              rw [List.getElem?_eq_getElem hjL]
              exact fun e => HSJ.out (Option.some.inj e)
            · exact HNo.out i (by omega)
end Go.Proofs.YtoddklfblcfoiaaDoor
