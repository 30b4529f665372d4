/-
  Read, walked.
-/
import Derived.Test.YtgcohalmfigjpaaRecJ
import Derived.Test.YtgcohalmfigjpaaRecC
import Derived.Test.YtgcohalmfigjpaaRecD
import Derived.Test.YtgcohalmfigjpaaOctR
import Derived.Test.YtgcohalmfigjpaaStore
import Derived.Deep.Cut
namespace Go.Proofs.Ytgcohalmfigjpaa
open Go.RowKit Go.Shelf
attribute [local go_sem] Oper.semAt_some
set_option linter.unusedVariables false
set_option linter.unusedSimpArgs false

def i64W (x : Nat) : Int := wrap64 (x : Int)
def wordR (q : List UInt8) : UInt8 × Int := (q.getD 0 0, i64W (getN q 1 8))
def wordsR (r : List UInt8) (k : Nat) : List (UInt8 × Int) := (List.range k).map fun i => wordR (piece r i)
theorem wordsR_succ (r : List UInt8) (k : Nat) : wordsR r (k + 1) = wordsR r k ++ [wordR (piece r k)] := by simp [wordsR, List.range_succ]
theorem wordsR_len (r : List UInt8) (k : Nat) : (wordsR r k).length = k := by simp [wordsR]
def rdK (b : List UInt8) : UInt8 := b.getD 0 0
def rdT (b : List UInt8) : Int := (getN b 1 2 : Int)
def rdL (b : List UInt8) : List (UInt8 × Int) := if rdK b = 5 then [] else wordsR (b.drop 5) (((b.drop 5).length + 8) / 9)
def rdS (b : List UInt8) : List UInt8 := if rdK b = 5 then b.drop 5 else []
def rdOk (b : List UInt8) : Bool :=
  decide (5 ≤ b.length ∧ b.length ≤ 8192) && (decide (getN b 3 2 = (rdL b).length + (rdS b).length) && (decide (rdK b = 5) || decide ((b.drop 5).length % 9 = 0)) && mayO (rdK b) (rdT b) (rdL b) (rdS b))
theorem results_cell_obj {fn : Func} {p u : Tmp} (h : fn.results = #[.cell p 24, .tmp u]) {tmps : Array Value} {w : World} {b : Nat} {x0 x1 x2 x3 : Value} (hp : tmps.getD p undef = .pointer (some ⟨b, 0, none⟩)) (hr : Row w b 24 [x0, x1, x2, x3]) :
    (results fn tmps).run Try.prog w = .ok (.tuple #[.agg #[x0, x1, x2, x3], tmps.getD u undef]) w := by
  rw [results_cell_tmp h, hp]
  have c0 := hr.cell 0
  have c1 := hr.cell 1
  have c2 := hr.cell 2
  have c3 := hr.cell 3
  simp only [List.getElem?_cons_zero, List.getElem?_cons_succ] at c0 c1 c2 c3
  have hz : Try.t24.size = 4 := by kernel_rfl
  simp [go_sem, loadVar, isAgg, run_underlying Try.underlying24, sizeOf, hz, c0, c1, c2, c3]
theorem getN_lt2 (b : List UInt8) (p : Int) : getN b p 2 < 65536 := by
  unfold getN
  split
  · rename_i h
    have h1 := leN_lt (cutL b p 2)
    have h2 : (cutL b p 2).length ≤ 2 := by
      unfold cutL
      split
      · simp; omega
      · simp
    have : 256 ^ (cutL b p 2).length ≤ 256 ^ 2 := Nat.pow_le_pow_right (by decide) h2
    omega
  · omega
/-- a body that is too short, too long, or wrong: nothing -/
structure RdIs (b : List UInt8) (K : Nat) (T : Int) (L : List (UInt8 × Int)) (S : List UInt8) (N : Nat) (E : Int) : Prop where
  iK : K = if rdOk b then (rdK b).toNat else 0
  iT : T = if rdOk b then rdT b else 0
  iL : L = if rdOk b then rdL b else []
  iS : S = if rdOk b then rdS b else []
  iN : N = L.length
  iE : E = if rdOk b then 0 else 8
theorem RdIs.no {b : List UInt8} {K : Nat} {T : Int} {L : List (UInt8 × Int)} {S : List UInt8} {N : Nat} {E : Int} (h : RdIs b K T L S N E) (hn : rdOk b = false) : K = 0 ∧ T = 0 ∧ L = [] ∧ S = [] ∧ N = 0 ∧ E = 8 := by
  obtain ⟨h1, h2, h3, h4, h5, h6⟩ := h
  rw [hn] at h1 h2 h3 h4 h6
  exact ⟨h1, h2, h3, h4, by rw [h5, h3]; rfl, h6⟩
theorem RdIs.yes {b : List UInt8} {K : Nat} {T : Int} {L : List (UInt8 × Int)} {S : List UInt8} {N : Nat} {E : Int} (h : RdIs b K T L S N E) (hn : rdOk b = true) : K = (rdK b).toNat ∧ T = rdT b ∧ L = rdL b ∧ S = rdS b ∧ N = (rdL b).length ∧ E = 0 := by
  obtain ⟨h1, h2, h3, h4, h5, h6⟩ := h
  rw [hn] at h1 h2 h3 h4 h6
  exact ⟨h1, h2, h3, h4, by rw [h5, h3]; rfl, h6⟩

theorem etW : ET Try.prog 22 44 (.agg #[.int .u8 0, .int .i64 0]) 2 16 := ⟨Try.underlying22, by kernel_rfl, rfl, by decide⟩
theorem bounds_5 {P : Program} (w : World) (n c : Nat) (h : 5 ≤ n) : (Instr.sliceBounds true n c (some (.int .i64 5)) none none).run P w = .ok (5, n, c) w := bounds_l w n c 5 .i64 h
theorem kept_or {w w' : World} {D row : Option Nat} (h : ∀ d, D = some d → w.heap[d]? = some (.deferred (some []))) (hg : w.grownBy w' row) (hne : ∀ d, D = some d → some d ≠ row) : ∀ d, D = some d → w'.heap[d]? = some (.deferred (some [])) :=
  fun d hd => (hg.block d (Array.getElem?_eq_some_iff.1 (h d hd)).1 (hne d hd)).trans (h d hd)
theorem own_ne {w : World} {base s n b : Nat} {v : Value} {xs : List Value} (h : Own w base s v n xs) (hb : b < base) : v.ownBlock = none ∨ v.ownBlock ≠ some b := by
  cases hv : v.ownBlock with
  | none => exact .inl rfl
  | some g => exact .inr (by have := h.lt g hv; simp; omega)

set_option maxHeartbeats 8000000 in
theorem read_p (a : Option Addr) (n c : Nat) (b : List UInt8) (w : World) (hl : Sl w 1 (.slice a n c) n (bvs b)) (hsz : n ≤ 1073741824)
    (K : Nat) (T : Int) (L : List (UInt8 × Int)) (S : List UInt8) (N : Nat) (E : Int) (H : RdIs b K T L S N E) :
    Calls Try.prog 18 #[.slice a n c] w fun e w' => ∃ v, e = .returned (.tuple #[.agg #[.int .u8 (K : Int), .int .i64 T, v, .string (str S)], .int .i64 E]) ∧ Own w' w.heap.size 2 v N (wcells L) ∧ Below w.heap.size w w' := by
  have hn := hl.len
  have HN := Lib.hid hn.1
  have hnc := hn.2.2
  clear hn
  have HH := Lib.hid H
  clear H
  refine calls_of_wp_marks 3 Try.func18 rfl ?_
  simp only [Try.ntmps18, List.size_toArray, List.length_cons, List.length_nil, Nat.reduceAdd, Nat.reduceSub, Array.replicate_succ, Array.replicate_zero, List.push_toArray, List.append_toArray, List.nil_append, List.cons_append]
  have hr0 : Row (w.alloc (.cells #[.int .u8 0, .int .i64 0, .slice none 0 0, .string ByteArray.empty] 24)) w.heap.size 24 [.int .u8 0, .int .i64 0, .slice none 0 0, .string ByteArray.empty] := Row.new w _ _
  have hb0 : Below w.heap.size w (w.alloc (.cells #[.int .u8 0, .int .i64 0, .slice none 0 0, .string ByteArray.empty] 24)) := (Below.refl _ _).alloc (Nat.le_refl _) _
  by_cases h5 : n < 5
  · have h5i : (n : Int) < 5 := by omega
    have hno : Hid (rdOk b = false) := by show _ = _; rw [rdOk, decide_eq_false (by rw [HN.out]; omega)]; rfl
    go_wp2_with (refine wpL_storeRow rfl _ _ _ rfl rfl rfl hr0 (by kernel_rfl) rfl rfl ?_; intro w2 hg2 hr2)
    obtain ⟨e1, e2, e3, e4, e5, e6⟩ := HH.out.no hno.out
    rw [e1, e2, e3, e4, e5, e6]
    exact ⟨_, results_cell_obj rfl rfl hr2, _, rfl, Own.nil _ _ _, hb0.grown hg2 hb0.size (fun g e => by cases e; exact Nat.le_refl _)⟩
  by_cases h6 : 8192 < n
  · have h5i : ¬ (n : Int) < 5 := by omega
    have h6i : (8192 : Int) < n := by omega
    have hno : Hid (rdOk b = false) := by show _ = _; rw [rdOk, decide_eq_false (by rw [HN.out]; omega)]; rfl
    go_wp2_with (refine wpL_storeRow rfl _ _ _ rfl rfl rfl hr0 (by kernel_rfl) rfl rfl ?_; intro w2 hg2 hr2)
    obtain ⟨e1, e2, e3, e4, e5, e6⟩ := HH.out.no hno.out
    rw [e1, e2, e3, e4, e5, e6]
    exact ⟨_, results_cell_obj rfl rfl hr2, _, rfl, Own.nil _ _ _, hb0.grown hg2 hb0.size (fun g e => by cases e; exact Nat.le_refl _)⟩
  have h5i : ¬ (n : Int) < 5 := by omega
  have h6i : ¬ (8192 : Int) < n := by omega
  obtain ⟨b1, o1, rfl, _⟩ := hl.byte (k := 0) (by omega)
  obtain ⟨B, hB⟩ : ∃ B, B = w.heap.size := ⟨_, rfl⟩
  have HB := Lib.hid hB
  go_wp2_with fail
  refine (get_any _ n c b _ 1 2 (hl.below hb0) (by omega)).mono ?_
  rintro e w2 ⟨rfl, hb2⟩
  have hr2 := hr0.after hb2
  have hB2 := hb0.trans (hb2.mono hb0.size)
  obtain ⟨TT, hT⟩ : ∃ TT : Nat, TT = getN b 1 2 := ⟨_, rfl⟩
  have hT9 : TT < 65536 := by rw [hT]; exact getN_lt2 b 1
  rw [← hT]
  have HT : Hid (rdT b = (TT : Int)) := by show _ = _; rw [rdT, hT]
  clear hT
  go_wp2_with fail
  refine (get_any _ n c b _ 3 2 (hl.below hB2) (by omega)).mono ?_
  rintro e w3 ⟨rfl, hb3⟩
  have hr3 := hr2.after hb3
  have hB3 := hB2.trans (hb3.mono hB2.size)
  obtain ⟨MM, hM⟩ : ∃ MM : Nat, MM = getN b 3 2 := ⟨_, rfl⟩
  have hM9 : MM < 65536 := by rw [hM]; exact getN_lt2 b 3
  rw [← hM]
  have HM := Lib.hid hM
  generalize getE b 3 2 = X1
  generalize getE b 1 2 = X2
  obtain ⟨kb, hkb⟩ : ∃ kb, kb = (b.getD 0 0).toNat := ⟨_, rfl⟩
  have hk9 : kb < 256 := by rw [hkb]; exact UInt8.toNat_lt _
  have HK : Hid ((rdK b).toNat = kb) := by show _ = _; rw [rdK, hkb]
  have hl3 := hl.below hB3
  have hl3w := hl3
  obtain ⟨_, _, e9, hq3⟩ := hl3.byte (k := 0) (by omega)
  cases e9
  rw [← hkb, Nat.add_zero] at hq3
  clear hM hkb hb3 hr2 hb2 hB2 hr0 hb0 hl3 hl3w
  rw [← hB] at hr3 ⊢
  have hB3' : w.heap.size ≤ B := by omega
  clear hB
  have hBl := hr3.lt
  go_upto_region 6 with (first
    | (refine wpL_storeAt rfl _ _ _ rfl (v := .int .u8 (kb : Int)) rfl rfl rfl rfl (by kernel_rfl) hr3 rfl ?_; intro w4 hg4 hr4; have hB4 := hB3.grown hg4 hB3.size (fun g e => by cases e; exact hB3'); simp only [List.set_cons_zero, List.set_cons_succ] at hr4; clear hg4)
    | (refine wpL_storeAt rfl _ _ _ rfl (v := .int .i64 (TT : Int)) rfl rfl rfl rfl (by kernel_rfl) hr4 rfl ?_; intro w5 hg5 hr5; have hB5 := hB4.grown hg5 hB4.size (fun g e => by cases e; exact hB3'); simp only [List.set_cons_zero, List.set_cons_succ] at hr5; clear hg5 hr4 hB4))
  go_upto_region 7 with (refine wpL_cutW etB rfl (.tmp 38) _ none none rfl 5 n c rfl (bounds_5 _ n c (by omega)) (by omega) (Nat.le_refl _) (by omega) (by omega) ?_; intro av hav0; have havw := hav0 w _ hl; rw [bvs_drop, List.take_of_length_le (by rw [bvs_length, List.length_drop, HN.out]; exact Nat.le_refl _)] at havw; have hav := havw.below hB5; clear hav0)
  have hBl5 := hr5.lt
  clear hr3 hB3 hBl hq3
  have c0 := hr5.cell 0
  simp only [List.getElem?_cons_zero] at c0
  by_cases hk5 : kb = 5
  · have hk5i : ((kb : Int) = 5) = True := eq_true (by omega)
    have hk5j : ((kb : Int) == 5) = true := by rw [beq_iff_eq]; omega
    have HK5 := Lib.hid hk5
    clear hk5
    go_upto_region 13 with (first
      | refine wpL_toString rfl 28 9 (.tmp 43) rfl Try.underlying28 Try.underlying5 Try.underlying9 hav rfl ?_
      | (refine wpL_storeAt rfl _ _ _ rfl (v := .string (str (b.drop 5))) rfl rfl rfl rfl (by kernel_rfl) hr5 rfl ?_; intro w6 hg6 hr6; have hB6 := hB5.grown hg6 hB5.size (fun g e => by cases e; exact hB3'); simp only [List.set_cons_zero, List.set_cons_succ] at hr6; clear hg6))
    obtain ⟨S2, hS2⟩ : ∃ S2, S2 = b.drop 5 := ⟨_, rfl⟩
    obtain ⟨m5, hm5⟩ : ∃ m5, m5 = n - 5 := ⟨_, rfl⟩
    have hS5 : S2.length = m5 := by rw [hS2, hm5, List.length_drop, HN.out]
    have hm9 : m5 ≤ 8187 := by omega
    have hsz2 : (str S2).size = m5 := by rw [str_size]; exact hS5
    rw [← hS2] at hr6
    rw [← hm5]
    obtain ⟨L2, hL2⟩ : ∃ L2 : List (UInt8 × Int), L2 = [] := ⟨_, rfl⟩
    have hr7 := hr6
    have hB7 := hB6
    have ho7 : Own w6 w6.heap.size 2 (.slice none 0 0) 0 (wcells L2) := by rw [hL2]; exact Own.nil _ _ _
    have hL2' : Hid (rdL b = L2 ∧ rdS b = S2) := by
      show _ ∧ _
      have hk : rdK b = 5 := by rw [← UInt8.toNat_inj, HK.out, HK5.out]; rfl
      rw [rdL, rdS, if_pos hk, if_pos hk, hL2, hS2]; exact ⟨rfl, rfl⟩
    have HL2 : Hid (rdL b = L2 ∧ rdS b = S2 ∧ (rdL b).length = 0) := ⟨hL2'.out.1, hL2'.out.2, by rw [hL2'.out.1, hL2]; rfl⟩
    have hbaseB : B < w6.heap.size := hr6.lt
    have hbase : w.heap.size ≤ w6.heap.size := hB6.size
    have hK7 : ∀ d, (none : Option Nat) = some d → w6.heap[d]? = some (.deferred (some [])) := fun d e => by cases e
    obtain ⟨X, hX⟩ : ∃ X, X = mayN kb TT 0 (L2.any wrongB) (decide (S2 = [])) := ⟨_, rfl⟩
    have HX := Lib.hid hX
    obtain ⟨Q5, hQ5⟩ : ∃ Q5, Q5 = true := ⟨_, rfl⟩
    have HQ9 := Lib.hid hQ5
    have HOK : Hid (rdOk b = (decide (MM = 0 + m5) && Q5 && X)) := by
      show _ = _
      rw [rdOk, decide_eq_true (by rw [HN.out]; omega : 5 ≤ b.length ∧ b.length ≤ 8192), ← HM.out, mayO, HL2.out.1, HL2.out.2.1, HK.out, HT.out, hS5, hL2, hX, hL2, hQ5, HK5.out]
      simp [show rdK b = 5 by rw [← UInt8.toNat_inj, HK.out, HK5.out]; rfl]
    have c0 := hr7.cell 0
    have c1 := hr7.cell 1
    have c2 := hr7.cell 2
    have c3 := hr7.cell 3
    simp only [List.getElem?_cons_zero, List.getElem?_cons_succ] at c0 c1 c2 c3
    clear hr5 hB5 hav hr6 hB6 hS2 hm5 hS5 hL2 hL2' hX hQ5
    obtain ⟨w7, rfl⟩ : ∃ x, x = w6 := ⟨_, rfl⟩
    by_cases hMM : MM = m5
    · subst hMM
      have HMM : Hid (decide (MM = 0 + MM) = true) := decide_eq_true (Nat.zero_add _).symm
      as_aux_lemma =>
        go_wp2_with fail
        refine (may_p kb TT none 0 0 L2 S2 w7 ho7.sl X HX).mono ?_
        rintro e w8 ⟨rfl, hb8⟩
        have hr8 := hr7.after hb8
        have ho8 := ho7.below hb8
        have hB8 := hB7.trans (hb8.mono hB7.size)
        have hK8 := kept_or hK7 (grown_below hb8 none) (by rintro d ⟨⟩ <;> simp)
        clear hr7 ho7 hB7 hK7 c0 c1 c2 c3 hb8
        cases X with
        | false =>
          have hno : Hid (rdOk b = false) := by show _ = _; rw [HOK.out]; simp
          go_wp2_with (refine wpL_storeRow rfl _ _ _ rfl rfl rfl hr8 (by kernel_rfl) rfl rfl ?_; intro w9 hg9 hr9)
          have hB9 := hB8.grown hg9 hB8.size (fun g e => by cases e; exact hB3')
          have hK9 := kept_or hK8 hg9 (by rintro d ⟨⟩ <;> simp <;> omega)
          obtain ⟨e1, e2, e3, e4, e5, e6⟩ := HH.out.no hno.out
          rw [e1, e2, e3, e4, e5, e6]
          first
            | exact ⟨_, results_cell_obj rfl rfl hr9, _, rfl, Own.nil _ _ _, hB9⟩
            | (refine ⟨by simp, .inl ⟨_, _, rfl, run_takeDeferred (hK9 D rfl), ?_⟩⟩
               have q9 := grownBy_putObj' w9 D (.deferred none)
               exact ⟨_, results_cell_obj rfl rfl ((hr9).grown q9 (by simp; omega)), _, rfl, Own.nil _ _ _, (hB9).grown q9 (hB9).size (fun g e => by cases e; omega)⟩)
        | true =>
          have hyes : Hid (rdOk b = true) := by show _ = _; rw [HOK.out, HMM.out, HQ9.out]; simp
          go_wp2_with (first | refine wpL_loadRow rfl _ _ rfl rfl hr8 Try.underlying24 rfl (by kernel_rfl) ?_ | (refine wpL_storeRow rfl _ _ _ rfl rfl rfl hr8 (by kernel_rfl) rfl rfl ?_; intro w9 hg9 hr9))
          have hB9 := hB8.grown hg9 hB8.size (fun g e => by cases e; exact hB3')
          have hK9 := kept_or hK8 hg9 (by rintro d ⟨⟩ <;> simp <;> omega)
          have ho9 := ho8.kept hg9 (own_ne ho8 hbaseB)
          obtain ⟨e1, e2, e3, e4, e5, e6⟩ := HH.out.yes hyes.out
          rw [e1, e2, e3, e4, e5, e6, HK.out, HT.out, HL2.out.2.2, HL2.out.1, HL2.out.2.1]
          first
            | exact ⟨_, results_cell_obj rfl rfl hr9, _, rfl, ho9.mono hbase, hB9⟩
            | (refine ⟨by simp, .inl ⟨_, _, rfl, run_takeDeferred (hK9 D rfl), ?_⟩⟩
               have q9 := grownBy_putObj' w9 D (.deferred none)
               exact ⟨_, results_cell_obj rfl rfl (hr9.grown q9 (by simp; omega)), _, rfl, (ho9.kept q9 (own_ne ho9 (by omega))).mono hbase, hB9.grown q9 hB9.size (fun g e => by cases e; omega)⟩)
    · have hno : Hid (rdOk b = false) := by show _ = _; rw [HOK.out, decide_eq_false (by omega : ¬ MM = 0 + m5)]; rfl
      as_aux_lemma =>
        go_wp2_with (refine wpL_storeRow rfl _ _ _ rfl rfl rfl hr7 (by kernel_rfl) rfl rfl ?_; intro w9 hg9 hr9)
        have hB9 := hB7.grown hg9 hB7.size (fun g e => by cases e; exact hB3')
        have hK9 := kept_or hK7 hg9 (by rintro d ⟨⟩ <;> simp <;> omega)
        obtain ⟨e1, e2, e3, e4, e5, e6⟩ := HH.out.no hno.out
        rw [e1, e2, e3, e4, e5, e6]
        first
          | exact ⟨_, results_cell_obj rfl rfl hr9, _, rfl, Own.nil _ _ _, hB9⟩
          | (refine ⟨by simp, .inl ⟨_, _, rfl, run_takeDeferred (hK9 D rfl), ?_⟩⟩
             have q9 := grownBy_putObj' w9 D (.deferred none)
             exact ⟨_, results_cell_obj rfl rfl ((hr9).grown q9 (by simp; omega)), _, rfl, Own.nil _ _ _, (hB9).grown q9 (hB9).size (fun g e => by cases e; omega)⟩)
  · have hk5i : ¬ (kb : Int) = 5 := by omega
    have hk5j : ((kb : Int) == 5) = false := by rw [beq_eq_false_iff_ne]; omega
    have HK5 := Lib.hid hk5
    clear hk5
    go_wp2_with fail
    obtain ⟨C, hC⟩ : ∃ C, C = w5.heap.size := ⟨_, rfl⟩
    refine (chunk_any av (n - 5) (c - 5) _).mono ?_
    rintro e w6 ⟨rfl, hw6⟩
    have hbS : Boxed w6 C 28 (.slice av (n - 5) (c - 5)) := by rw [← hw6, hC]; exact (Boxed.new w5 _ _).alloc _
    have hbN : Boxed w6 (C + 1) 3 (.int .i64 9) := by
      have := Boxed.new (w5.alloc (.cells #[.slice av (n - 5) (c - 5)] 28)) 3 (.int .i64 9)
      rw [World.size_alloc, ← hC, hw6] at this
      exact this
    have hz6 : w6.heap.size = C + 2 := by rw [← hw6, hC]; simp
    have hb6 : Below w5.heap.size w5 w6 := by rw [← hw6]; exact ((Below.refl _ _).alloc (Nat.le_refl _) _).alloc (by simp) _
    have hr6 := hr5.after hb6
    have hB6 := hB5.trans (hb6.mono hB5.size)
    rw [← hC] at hBl5 ⊢
    have hCw : w.heap.size ≤ C := by rw [hC]; exact hB5.size
    clear hw6 hb6 hC hr5 hB5 hav c0
    go_wp2_with fail
    obtain ⟨D, hD⟩ : ∃ D, D = w6.heap.size := ⟨_, rfl⟩
    obtain ⟨rst, hrst⟩ : ∃ rst, rst = b.drop 5 := ⟨_, rfl⟩
    have hrl : rst.length = n - 5 := by rw [hrst, List.length_drop, HN.out]
    have HRST := Lib.hid hrst
    have HRL := Lib.hid hrl
    rw [← hrst] at havw
    obtain ⟨kk, hkk⟩ : ∃ kk, kk = (n - 5 + 8) / 9 := ⟨_, rfl⟩
    obtain ⟨m5, hm5⟩ : ∃ m5, m5 = n - 5 := ⟨_, rfl⟩
    rw [← hm5] at hbS havw hkk ⊢
    have hm9 : m5 ≤ 8187 := by omega
    have hkk9 : kk ≤ 910 := by omega
    have HM5 := Lib.hid hm5
    have HKK := Lib.hid hkk
    obtain ⟨R, hRd⟩ : ∃ R : Nat → World → Prop, R = fun k W => ∃ v, Row W B 24 [.int .u8 (kb : Int), .int .i64 (TT : Int), v, .string ByteArray.empty] ∧ Own W (D + 2) 2 v k (wcells (wordsR rst k)) ∧ Boxed W C 28 (.slice av m5 (c - 5)) ∧ Boxed W (C + 1) 3 (.int .i64 9) ∧ Below w.heap.size w W := ⟨_, rfl⟩
    have HR : ∀ k W, R k W ↔ ∃ v, Row W B 24 [.int .u8 (kb : Int), .int .i64 (TT : Int), v, .string ByteArray.empty] ∧ Own W (D + 2) 2 v k (wcells (wordsR rst k)) ∧ Boxed W C 28 (.slice av m5 (c - 5)) ∧ Boxed W (C + 1) 3 (.int .i64 9) ∧ Below w.heap.size w W := by
      intro k W; rw [hRd]
    clear hRd hrst hrl hm5 hkk
    have hDe : D = C + 2 := by rw [hD, hz6]
    refine range_wide (n := 3) (gf := 44) rfl (enters_of Try.func44 (by kernel_rfl) rfl) (R kk) ?_ ?_
    · intro fn r hr hL0
      rw [← hD] at hr hL0 ⊢
      have hY := chunk1_in (3 - 1) (by omega) (D + 1) C (C + 1) av m5 (c - 5) rst w havw (by omega) (fun k W => Laid (D + 1) D r W ∧ R k W) ?js ?jd ?jy _ ⟨hL0, ?r0⟩
      case js =>
        rintro k W ⟨hL, hR⟩
        obtain ⟨v, h1, h2, h3, h4, h5⟩ := (HR k W).1 hR
        exact ⟨h3, h4, h5⟩
      case jd =>
        rintro k W i ⟨hL, hR⟩
        obtain ⟨v, h1, h2, h3, h4, h5⟩ := (HR k W).1 hR
        have hb := below_drewN (Below.refl W.heap.size W) i
        exact ⟨⟨hL.1, hL.2⟩, (HR k _).2 ⟨v, h1, h2.below hb, h3, h4, below_drewN h5 i⟩⟩
      case r0 =>
        refine (HR 0 _).2 ⟨_, (hr6.alloc _).alloc _, Own.nil _ _ _, (hbS.alloc _).alloc _, (hbN.alloc _).alloc _, (hB6.alloc hB6.size _).alloc (by have := hB6.size; simp; omega) _⟩
      case jy =>
        rintro k W av2 cv2 NN hkm hNN hNN0 ⟨hL, hR⟩ hsp
        obtain ⟨v, h1, h2, h3, h4, h5⟩ := (HR k W).1 hR
        refine (yield_rec (R := fun W' => R (k + 1) W') hr trivial hL rfl (by omega) ?_).mono (fun e W' h => ⟨h.1, h.2.1, h.2.2⟩)
        clear hr
        have hL1 := hL.1
        have hL2 := hL.2
        have hNN9 : NN ≤ 9 := by rw [hNN, piece, List.length_take]; omega
        have hWS : Hid (wordsR rst (k + 1) = wordsR rst k ++ [wordR (piece rst k)]) := wordsR_succ rst k
        obtain ⟨pc, hpc⟩ : ∃ pc, pc = piece rst k := ⟨_, rfl⟩
        rw [← hpc] at hsp hNN hWS
        clear hpc
        obtain ⟨x0, hx0⟩ : ∃ x0, x0 = pc.getD 0 0 := ⟨_, rfl⟩
        have hWR : Hid (wordR pc = (x0, i64W (getN pc 1 8))) := by show _ = _; rw [wordR, hx0]
        have HX0 := Lib.hid hx0
        have HPC := Lib.hid hNN
        clear hR hx0 hNN
        gi_wp2
        refine ⟨hL1, ?_⟩
        have hlt := (Array.getElem?_eq_some_iff.1 hL1).1
        have q1 : ∀ b, b ≠ D + 1 → (W.putObj (D + 1) (.loop { r with state := .busy })).heap[b]? = W.heap[b]? := fun b hb => World.putObj_heap_other hb
        have q2 : (W.putObj (D + 1) (.loop { r with state := .busy })).heap[D + 1]? = some (.loop { r with state := .busy }) := World.putObj_heap_same hlt
        have q3 := grownBy_putObj' W (D + 1) (.loop { r with state := .busy })
        generalize W.putObj (D + 1) (.loop { r with state := .busy }) = W' at q1 q2 q3 ⊢
        have hz' : D + 1 < W'.heap.size := (Array.getElem?_eq_some_iff.1 q2).1
        have h1' : Row W' B 24 [.int .u8 (kb : Int), .int .i64 (TT : Int), v, .string ByteArray.empty] := (q1 B (by omega)).trans h1
        have h2' : Own W' (D + 2) 2 v k (wcells (wordsR rst k)) := h2.kept q3 (by
          cases hv : v.ownBlock with
          | none => exact .inl rfl
          | some g => exact .inr (by have := h2.lt g hv; simp; omega))
        have h5' : Below w.heap.size w W' := h5.grown q3 h5.size (fun k e => by cases e; omega)
        have hsp' := hsp.below h5'
        have h3' : W'.heap[C]? = W.heap[C]? := q1 C (by omega)
        have h4' : W'.heap[C + 1]? = W.heap[C + 1]? := q1 (C + 1) (by omega)
        have hk9' : 9 * k < m5 := hkm
        gi_wp2_with (refine ⟨trivial, ?_⟩; gi_at_call 31; refine (CallsIn.inRound _ (callsIn_wide.2 (get_any av2 NN cv2 pc W' 1 8 hsp' (by omega)))).mono ?_; rintro e W3 ⟨rfl, hb3⟩)
        have r1 := h1'.after hb3
        have r2 := h2'.below hb3
        have r5 := h5'.trans (hb3.mono h5'.size)
        have s3 := hsp'.below hb3
        have hz3 : D + 1 < W3.heap.size := Nat.lt_of_lt_of_le hz' hb3.size
        have q3b : ∀ b, b < D + 2 → b ≠ D + 1 → W3.heap[b]? = W.heap[b]? := fun b hb hb' => (hb3.block b (by omega)).trans (q1 b hb')
        have q3l : W3.heap[D + 1]? = some (.loop { r with state := .busy }) := (hb3.block _ hz').trans q2
        obtain ⟨pb, po, rfl, hx3⟩ := s3.byte (k := 0) hNN0
        rw [Nat.add_zero, ← HX0.out] at hx3
        have hpb : pb < D := by
          obtain ⟨b', o', e1, e2, _⟩ := hsp.addr (by omega)
          cases e1
          omega
        have c2 := r1.cell 2
        simp only [List.getElem?_cons_zero, List.getElem?_cons_succ] at c2
        have l1 := laterL_cell (B := D + 2) c2 (by omega)
        have l2 := laterL_cell (B := D + 2) hx3 (by omega)
        obtain ⟨va, vc, rfl⟩ := r2.form
        obtain ⟨gn, hgn⟩ : ∃ gn, gn = getN pc 1 8 := ⟨_, rfl⟩
        rw [← hgn] at hWR ⊢
        clear q1 q2 q3 h1' h2' h5' hsp' hb3 h1 h2 h5 hL hL1 c2 hx3 hgn
        gi_wp2
        refine wpIn_region_idx (RbL (D + 2)) (RbL_refl _) (RbL_trans _) [(0,0),(0,1),(0,2),(0,3),(0,4),(0,5),(0,6),(0,7),(1,8),(1,9),(0,10),(2,11)] (by kernel_rfl) (by kernel_rfl) (by kernel_rfl) (by kernel_rfl) ?_
        simp only [pickO, List.getD_cons_succ, List.getD_cons_zero]
        refine wpCan_seg 8 (by kernel_rfl) ?_
        simp only [List.take_succ_cons, List.take_zero, List.drop_succ_cons, List.drop_zero, List.map_cons, List.map_nil]
        iterate 8 (go_big_quiet_step (fail))
        refine wpQuiet_nil ?_
        clear l1 l2
        refine wpCan_list (k := 0) (fun KK hK => ?_) (fun _ => RbL_refl _ _)
        go_wp2_with fail
        obtain ⟨z, hz⟩ : ∃ z, z = wrap64 (gn : Int) := ⟨_, rfl⟩
        rw [← hz]
        have hzW : Hid (wordR pc = (x0, z)) := by show _ = _; rw [hWR.out, hz]; rfl
        clear hz hWR
        have hb7 : Below W3.heap.size W3.drew (W3.alloc (.cells #[.int .u8 (x0.toNat : Int), .int .i64 z] 44)).drew := ((Below.refl W3.heap.size W3.drew).alloc (Nat.le_refl _) _)
        have hs7 : Sl (W3.alloc (.cells #[.int .u8 (x0.toNat : Int), .int .i64 z] 44)).drew 2 (.slice (some ⟨W3.heap.size, 0, none⟩) 1 1) 1 (wcells [(x0, z)]) := by
          refine Sl.drew ⟨rfl, _, _, rfl, Nat.le_refl _, by decide, by simp, fun j u hu => ⟨_, 0, rfl, ?_⟩⟩
          rw [Nat.zero_add]
          exact ((Row.new W3 [.int .u8 (x0.toNat : Int), .int .i64 z] 44).cell j).trans hu
        refine hK _ _ (fun _ => hb7.mono (by omega)) ?_
        clear hK KK
        have t1 := (r1.drew).after hb7
        have t2 := (r2.drew).below hb7
        have t5 := (r5.drew).trans (hb7.mono r5.size)
        have t3b : ∀ b, b < D + 2 → (W3.alloc (.cells #[.int .u8 (x0.toNat : Int), .int .i64 z] 44)).drew.heap[b]? = W3.heap[b]? := fun b hb => hb7.block b (by omega)
        have hz7 : D + 1 < (W3.alloc (.cells #[.int .u8 (x0.toNat : Int), .int .i64 z] 44)).drew.heap.size := Nat.lt_of_lt_of_le hz3 hb7.size
        generalize (W3.alloc (.cells #[.int .u8 (x0.toNat : Int), .int .i64 z] 44)).drew = W7 at hb7 hs7 t1 t2 t5 t3b hz7 ⊢
        clear r1 r2 r5 hb7
        refine wpCan_list (k := 0) (fun KK hK => ?_) (fun _ => RbL_refl _ _)
        go_wp2_with (at_builtin; refine wpL_appendX2 etW rfl _ _ rfl t2 rfl hs7 rfl (by simp [wcells, Value.oneCell']) (by omega) (by simp [maxLen]; omega) (by omega) ?_; intro v8 W8 ho8 hg8 hc8)
        have hne : ∀ b, b < D + 2 → some b ≠ (Value.slice va k vc).ownBlock := fun b hb e => by have := t2.lt b e.symm; omega
        have hb8 : Below (D + 2) W7 W8 := ⟨hg8.os, hg8.tape, hg8.output, hg8.size, fun q hq => hg8.block q (by omega) (hne q hq)⟩
        refine hK _ _ (fun _ => hb8) ?_
        clear hK KK
        have u1 := t1.below hb8 (by omega)
        have u5 := t5.trans (hb8.mono (by omega))
        have hz8 : D + 1 < W8.heap.size := Nat.lt_of_lt_of_le hz7 hb8.size
        have u3b : ∀ b, b < D + 2 → W8.heap[b]? = W3.heap[b]? := fun b hb => (hb8.block b hb).trans (t3b b hb)
        rw [← wcells_append, ← hzW.out, ← hWS.out] at ho8
        obtain ⟨va8, vc8, rfl⟩ := ho8.form
        clear t1 t2 t5 t3b hs7 hg8 hc8 hb8 hne
        refine wpCan_seg 1 (by kernel_rfl) ?_
        simp only [List.take_succ_cons, List.take_zero, List.drop_succ_cons, List.drop_zero, List.map_cons, List.map_nil]
        iterate 1 (go_big_quiet_step (fail))
        refine wpQuiet_nil ?_
        refine wpCan_list (k := 1) (fun KK hK => ?_) (fun h => by cases h)
        go_wp2_with (refine wpL_storeAt rfl _ _ _ rfl (v := .slice va8 (k + 1) vc8) rfl rfl rfl rfl (by kernel_rfl) u1 rfl ?_; intro W9 hg9 hr9; simp only [List.set_cons_zero, List.set_cons_succ] at hr9)
        refine hK _ _ (fun h => by cases h) ?_
        clear hK KK
        unfold wpCan
        gi_wp2
        have v2 := ho8.kept hg9 (by
          cases hv : (Value.slice va8 (k + 1) vc8).ownBlock with
          | none => exact .inl rfl
          | some g => exact .inr (by have := ho8.lt g hv; simp; omega))
        have v5 := u5.grown hg9 u5.size (fun g e => by cases e; omega)
        have hq9 : ∀ b, b < D + 2 → b ≠ B → W9.heap[b]? = W3.heap[b]? := fun b hb hb' => (hg9.block b (by omega) (by simp; omega)).trans (u3b b hb)
        have q6 := grownBy_putObj' W9 (D + 1) (.loop r)
        have hC9 : ∀ b, b < D + 1 → b ≠ B → W9.heap[b]? = W.heap[b]? := fun b hb hb' => (hq9 b (by omega) hb').trans (q3b b (by omega) (by omega))
        refine ⟨(hq9 _ (by omega) (by omega)).trans q3l, (hC9 _ (by omega) (by omega)).trans hL2, (HR (k + 1) _).2 ⟨_, hr9.grown q6 (by simp; omega), ?_, Boxed.kept ((hC9 C (by omega) (by omega)).trans h3) q6 (by simp; omega), Boxed.kept ((hC9 (C + 1) (by omega) (by omega)).trans h4) q6 (by simp; omega), v5.grown q6 v5.size (fun g e => by cases e; omega)⟩⟩
        exact v2.kept q6 (by
          cases hv : (Value.slice va8 (k + 1) vc8).ownBlock with
          | none => exact .inl rfl
          | some g => exact .inr (by have := v2.lt g hv; simp; omega))
      refine hY.mono ?_
      rintro e W ⟨he, hL, hR⟩
      rw [← HKK.out] at hR
      exact ⟨he, hL, hR⟩
    · intro W hR hK hzW W5 q5
      rw [← hD] at hK hzW q5 ⊢
      obtain ⟨v, h1, h2, h3, h4, h5⟩ := (HR kk W).1 hR
      have h1' := h1.grown q5 (by simp; omega)
      have h2' := h2.kept q5 (by
        cases hv : v.ownBlock with
        | none => exact .inl rfl
        | some g => exact .inr (by have := h2.lt g hv; simp; omega))
      have h5' := h5.grown q5 h5.size (fun g e => by cases e; omega)
      have hK' := (q5.block D (by omega) (by simp)).trans hK
      have hz5 : D + 1 < W5.heap.size := Nat.lt_of_lt_of_le hzW q5.size
      obtain ⟨va, vc, rfl⟩ := h2'.form
      clear hR hK hzW h1 h2 h3 h4 h5 q5 HR hbS hbN hr6 hB6 havw hl
      obtain ⟨S2, hS2⟩ : ∃ S2 : List UInt8, S2 = [] := ⟨_, rfl⟩
      obtain ⟨L2, hL2⟩ : ∃ L2, L2 = wordsR rst kk := ⟨_, rfl⟩
      have hsz2 : (str S2).size = 0 := by rw [hS2]; rfl
      have hr7 : Row W5 B 24 [.int .u8 (kb : Int), .int .i64 (TT : Int), .slice va kk vc, .string (str S2)] := by rw [hS2]; exact h1'
      have ho7 := h2'
      rw [← hL2] at ho7
      have hB7 := h5'
      have hK7 : ∀ d, some D = some d → W5.heap[d]? = some (.deferred (some [])) := fun d e => by cases e; exact hK'
      have hll : rst.length = m5 := by rw [HRL.out, HM5.out]
      have hL2' : Hid (rdL b = L2 ∧ rdS b = S2) := by
        show _ ∧ _
        have hk : ¬ rdK b = 5 := fun h => HK5.out (by rw [← HK.out, h]; rfl)
        rw [rdL, rdS, if_neg hk, if_neg hk, hL2, hS2, ← HRST.out, hll, HKK.out]; exact ⟨rfl, rfl⟩
      have HL2 : Hid (rdL b = L2 ∧ rdS b = S2 ∧ (rdL b).length = kk) := ⟨hL2'.out.1, hL2'.out.2, by rw [hL2'.out.1, hL2]; exact wordsR_len _ _⟩
      have hbaseB : B < D + 2 := by omega
      have hbase : w.heap.size ≤ D + 2 := by omega
      obtain ⟨X, hX⟩ : ∃ X, X = mayN kb TT kk (L2.any wrongB) (decide (S2 = [])) := ⟨_, rfl⟩
      have HX := Lib.hid hX
      obtain ⟨Q5, hQ5⟩ : ∃ Q5, Q5 = decide (m5 % 9 = 0) := ⟨_, rfl⟩
      have HOK : Hid (rdOk b = (decide (MM = kk + 0) && Q5 && X)) := by
        show _ = _
        have hk : ¬ rdK b = 5 := fun h => HK5.out (by rw [← HK.out, h]; rfl)
        rw [rdOk, decide_eq_true (by rw [HN.out]; omega : 5 ≤ b.length ∧ b.length ≤ 8192), ← HM.out, mayO, HL2.out.2.2, ← HRST.out, hll, HL2.out.1, HL2.out.2.1, HK.out, HT.out, hX, hQ5, decide_eq_false hk]
        rw [hS2]
        simp
      have c0 := hr7.cell 0
      have c1 := hr7.cell 1
      have c2 := hr7.cell 2
      have c3 := hr7.cell 3
      simp only [List.getElem?_cons_zero, List.getElem?_cons_succ] at c0 c1 c2 c3
      have hzD : D + 1 < W5.heap.size := hz5
      have hBD : B < D := by omega
      have hwD : w.heap.size ≤ D := by omega
      clear h1' h2' h5' hK' hz5 hS2 hL2 hL2' hX hll hDe hD hz6
      obtain ⟨w7, rfl⟩ : ∃ x, x = W5 := ⟨_, rfl⟩
      dsimp only
      by_cases hMM : MM = kk
      · by_cases hq : m5 % 9 = 0
        · have hqi : (m5 : Int) % 9 = 0 := by omega
          have HMM : Hid (decide (MM = kk + 0) = true) := decide_eq_true hMM
          have HQ9 : Hid (Q5 = true) := by show _ = _; rw [hQ5]; exact decide_eq_true hq
          clear hQ5 hq
          subst hMM
          as_aux_lemma =>
            go_wp2_with fail
            refine (may_p kb TT va MM vc L2 S2 w7 ho7.sl X HX).mono ?_
            rintro e w8 ⟨rfl, hb8⟩
            have hr8 := hr7.after hb8
            have ho8 := ho7.below hb8
            have hB8 := hB7.trans (hb8.mono hB7.size)
            have hK8 := kept_or hK7 (grown_below hb8 none) (by rintro d ⟨⟩ <;> simp)
            clear hr7 ho7 hB7 hK7 c0 c1 c2 c3 hb8
            cases X with
            | false =>
              have hno : Hid (rdOk b = false) := by show _ = _; rw [HOK.out]; simp
              go_wp2_with (refine wpL_storeRow rfl _ _ _ rfl rfl rfl hr8 (by kernel_rfl) rfl rfl ?_; intro w9 hg9 hr9)
              have hB9 := hB8.grown hg9 hB8.size (fun g e => by cases e; exact hB3')
              have hK9 := kept_or hK8 hg9 (by rintro d ⟨⟩ <;> simp <;> omega)
              obtain ⟨e1, e2, e3, e4, e5, e6⟩ := HH.out.no hno.out
              rw [e1, e2, e3, e4, e5, e6]
              first
                | exact ⟨_, results_cell_obj rfl rfl hr9, _, rfl, Own.nil _ _ _, hB9⟩
                | (refine ⟨by simp, .inl ⟨_, _, rfl, run_takeDeferred (hK9 D rfl), ?_⟩⟩
                   have q9 := grownBy_putObj' w9 D (.deferred none)
                   exact ⟨_, results_cell_obj rfl rfl ((hr9).grown q9 (by simp; omega)), _, rfl, Own.nil _ _ _, (hB9).grown q9 (hB9).size (fun g e => by cases e; omega)⟩)
            | true =>
              have hyes : Hid (rdOk b = true) := by show _ = _; rw [HOK.out, HMM.out, HQ9.out]; simp
              go_wp2_with (first | refine wpL_loadRow rfl _ _ rfl rfl hr8 Try.underlying24 rfl (by kernel_rfl) ?_ | (refine wpL_storeRow rfl _ _ _ rfl rfl rfl hr8 (by kernel_rfl) rfl rfl ?_; intro w9 hg9 hr9))
              have hB9 := hB8.grown hg9 hB8.size (fun g e => by cases e; exact hB3')
              have hK9 := kept_or hK8 hg9 (by rintro d ⟨⟩ <;> simp <;> omega)
              have ho9 := ho8.kept hg9 (own_ne ho8 hbaseB)
              obtain ⟨e1, e2, e3, e4, e5, e6⟩ := HH.out.yes hyes.out
              rw [e1, e2, e3, e4, e5, e6, HK.out, HT.out, HL2.out.2.2, HL2.out.1, HL2.out.2.1]
              first
                | exact ⟨_, results_cell_obj rfl rfl hr9, _, rfl, ho9.mono hbase, hB9⟩
                | (refine ⟨by simp, .inl ⟨_, _, rfl, run_takeDeferred (hK9 D rfl), ?_⟩⟩
                   have q9 := grownBy_putObj' w9 D (.deferred none)
                   exact ⟨_, results_cell_obj rfl rfl (hr9.grown q9 (by simp; omega)), _, rfl, (ho9.kept q9 (own_ne ho9 (by omega))).mono hbase, hB9.grown q9 hB9.size (fun g e => by cases e; omega)⟩)
        · have hqi : ¬ (m5 : Int) % 9 = 0 := by omega
          have hno : Hid (rdOk b = false) := by show _ = _; rw [HOK.out, hQ5, decide_eq_false hq]; simp
          clear hQ5 hq
          subst hMM
          as_aux_lemma =>
            go_wp2_with (refine wpL_storeRow rfl _ _ _ rfl rfl rfl hr7 (by kernel_rfl) rfl rfl ?_; intro w9 hg9 hr9)
            have hB9 := hB7.grown hg9 hB7.size (fun g e => by cases e; exact hB3')
            have hK9 := kept_or hK7 hg9 (by rintro d ⟨⟩ <;> simp <;> omega)
            obtain ⟨e1, e2, e3, e4, e5, e6⟩ := HH.out.no hno.out
            rw [e1, e2, e3, e4, e5, e6]
            first
              | exact ⟨_, results_cell_obj rfl rfl hr9, _, rfl, Own.nil _ _ _, hB9⟩
              | (refine ⟨by simp, .inl ⟨_, _, rfl, run_takeDeferred (hK9 D rfl), ?_⟩⟩
                 have q9 := grownBy_putObj' w9 D (.deferred none)
                 exact ⟨_, results_cell_obj rfl rfl ((hr9).grown q9 (by simp; omega)), _, rfl, Own.nil _ _ _, (hB9).grown q9 (hB9).size (fun g e => by cases e; omega)⟩)
      · have hno : Hid (rdOk b = false) := by show _ = _; rw [HOK.out, decide_eq_false (by omega : ¬ MM = kk + 0)]; rfl
        clear hQ5
        as_aux_lemma =>
          go_wp2_with (refine wpL_storeRow rfl _ _ _ rfl rfl rfl hr7 (by kernel_rfl) rfl rfl ?_; intro w9 hg9 hr9)
          have hB9 := hB7.grown hg9 hB7.size (fun g e => by cases e; exact hB3')
          have hK9 := kept_or hK7 hg9 (by rintro d ⟨⟩ <;> simp <;> omega)
          obtain ⟨e1, e2, e3, e4, e5, e6⟩ := HH.out.no hno.out
          rw [e1, e2, e3, e4, e5, e6]
          first
            | exact ⟨_, results_cell_obj rfl rfl hr9, _, rfl, Own.nil _ _ _, hB9⟩
            | (refine ⟨by simp, .inl ⟨_, _, rfl, run_takeDeferred (hK9 D rfl), ?_⟩⟩
               have q9 := grownBy_putObj' w9 D (.deferred none)
               exact ⟨_, results_cell_obj rfl rfl ((hr9).grown q9 (by simp; omega)), _, rfl, Own.nil _ _ _, (hB9).grown q9 (hB9).size (fun g e => by cases e; omega)⟩)
end Go.Proofs.Ytgcohalmfigjpaa
