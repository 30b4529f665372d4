/-
  Law 05's 'does' at a live cache. Conditions: the cache reads as one, its disk's power stays; no Drop, no Power, no Arm.
-/
import Derived.Test.YtchjfmgfoifbcaaChO
namespace Go.Proofs.Ytchjfmgfoifbcaa
open Go.RowKit
set_option linter.unusedVariables false
set_option linter.unusedSimpArgs false
set_option maxRecDepth 100000

def OpR (n : Nat) (C : Ch) (K s : Int) (l : List UInt8) (is : Bool) (E : Int) (B : List UInt8) (C' : Ch) : Prop :=
  (K = 0 ∧ is = false ∧ BringR n C s E C' ∧ B = if E = 0 then (C'.F s).b else []) ∨
  (K = 1 ∧ is = false ∧ B = [] ∧ WriteR n C s l E C') ∨
  (K = 2 ∧ is = false ∧ B = [] ∧ PinR n C s E C') ∨
  (K = 3 ∧ is = false ∧ B = [] ∧ UnpinR C s E C') ∨
  (K = 4 ∧ E = 0 ∧ B = [] ∧ EvictR C s is C') ∨
  (K = 6 ∧ is = false ∧ E = 0 ∧ B = [] ∧ FlushR C C') ∨
  ((K ≠ 0 ∧ K ≠ 1 ∧ K ≠ 2 ∧ K ≠ 3 ∧ K ≠ 4 ∧ K ≠ 6) ∧ is = false ∧ E = 0 ∧ B = [] ∧ C' = C)
def D9 (c cd : Nat) : Nat → Prop := fun x => x = c ∨ x = cd ∨ x = 9
theorem cd_d9 {c cd x : Nat} (h : CD c cd x) : D9 c cd x := h.elim .inl (fun h => .inr (.inl h))
def DoesP (n : Nat) (C : Ch) (K s : Int) (l : List UInt8) (c cd : Nat) (col : Nat → Nat) (w : World) (b bd : Nat) (e : Ending) (w' : World) : Prop :=
  ∃ v N cc is E, e = .returned (.agg #[.slice v N cc, .bool is, .int .i64 E]) ∧ ∃ C' B col', Hid (N = B.length ∧ OpR n C K s l is E B C' ∧ St (D9 c cd) col w col' w' ∧ CkAt c cd col' w' b bd C' ∧ Imm col' w' (.slice v N cc) B)
theorem St.fresh1 {C : Nat → Prop} {col col1 : Nat → Nat} {w w1 w2 : World} {g : Nat} (h : St C col w col1 w1) (hg : w1.grownBy w2 (some g)) (hs : w.heap.size ≤ g) : St C col w col1 w2 :=
  ⟨h.mods.after (Mods.grown hg) (fun q e => by cases e; exact .inr hs), h.ext⟩
/-- the thing done, the answer and the result, in blocks of their own, of colour 7 -/
structure Bx (col : Nat → Nat) (w : World) (g0 g1 g2 : Nat) (o x : List Value) : Prop where
  r0 : Row w g0 37 o
  r1 : Row w g1 39 [.slice none 0 0, .bool false, .int .i64 0]
  r2 : Row w g2 39 x
  c0 : col g0 = 7
  c1 : col g1 = 7
  c2 : col g2 = 7
  n1 : g1 ≠ g2
  n0 : g0 ≠ g2
variable {col col' : Nat → Nat} {w w' : World} {g0 g1 g2 : Nat} {o x y : List Value}
theorem Bx.st {Q : Nat → Prop} (h : Bx col w g0 g1 g2 o x) (k : St Q col w col' w') (h7 : ¬ Q 7) : Bx col' w' g0 g1 g2 o x :=
  ⟨h.r0.mods k.mods (by rw [h.c0]; exact h7), h.r1.mods k.mods (by rw [h.c1]; exact h7), h.r2.mods k.mods (by rw [h.c2]; exact h7), (k.ext _ h.r0.lt).trans h.c0, (k.ext _ h.r1.lt).trans h.c1, (k.ext _ h.r2.lt).trans h.c2, h.n1, h.n0⟩
theorem Bx.put (h : Bx col w g0 g1 g2 o x) (hg : w.grownBy w' (some g2)) (hr : Row w' g2 39 y) : Bx col w' g0 g1 g2 o y :=
  ⟨h.r0.grown hg (fun e => h.n0 (Option.some.inj e)), h.r1.grown hg (fun e => h.n1 (Option.some.inj e)), hr, h.c0, h.c1, h.c2, h.n1, h.n0⟩
theorem Bx.k1 (h : Bx col w g0 g1 g2 o x) {w' : World} (hg : w.grownBy w' (some g2)) : St (fun c => c = 7) col w col w' := St.one hg _ _ h.c2
theorem Bx.k2 (h : Bx col w g0 g1 g2 o x) {w' : World} (hg : w.grownBy w' (some g1)) : St (fun c => c = 7) col w col w' := St.one hg _ _ h.c1

set_option maxHeartbeats 8000000 in
theorem does_p (c cd : Nat) (col : Nat → Nat) (b bd : Nat) (C : Ch) (n N : Nat) (w : World) (K s : Int) (aB : Option Addr) (nB cB : Nat) (l : List UInt8) (aK : Option Addr) (nK cK : Nat) (t : Int) (h : CkAt c cd col w b bd C) (HL : LiveC C n N) (hN : N < 900000000) (hcc : ¬ c = cd) (hn : n ≤ 4096) (hc7 : ¬ CD c cd 7) (hc9 : ¬ CD c cd 9) (hc0 : ¬ CD c cd 0)
    (hl : Sl w 1 (.slice aB nB cB) nB (bvs l)) (hnB : nB ≤ 1024) (hs : (Lit.int .i64 s).wf = true) (hs2 : s ≤ 9223372036854775807) (hK : K ≠ 5 ∧ K ≠ 7 ∧ K ≠ 8) :
    Calls Try.prog 12 #[.pointer (some ⟨b, 0, none⟩), .pointer (some ⟨bd, 0, none⟩), .agg #[.int .i64 K, .int .i64 s, .slice aB nB cB, .slice aK nK cK, .int .i64 t]] w (DoesP n C K s l c cd col w b bd) := by
  obtain ⟨w3, hw3⟩ : ∃ w3, w3 = ((w.alloc (.cells #[.int .i64 K, .int .i64 s, .slice aB nB cB, .slice aK nK cK, .int .i64 t] 37)).alloc (.cells #[.slice none 0 0, .bool false, .int .i64 0] 39)).alloc (.cells #[.slice none 0 0, .bool false, .int .i64 0] 39) := ⟨_, rfl⟩
  have hb3 : Below w.heap.size w w3 := by rw [hw3]; exact (((Below.refl _ _).alloc (Nat.le_refl _) _).alloc (by simp) _).alloc (by simp; omega) _
  have hr0 : Row w3 w.heap.size 37 [.int .i64 K, .int .i64 s, .slice aB nB cB, .slice aK nK cK, .int .i64 t] := by rw [hw3]; exact ((Row.new w [.int .i64 K, .int .i64 s, .slice aB nB cB, .slice aK nK cK, .int .i64 t] 37).alloc _).alloc _
  have hr1 : Row w3 (w.heap.size + 1) 39 [.slice none 0 0, .bool false, .int .i64 0] := by
    rw [hw3]
    have := Row.new (w.alloc (.cells #[.int .i64 K, .int .i64 s, .slice aB nB cB, .slice aK nK cK, .int .i64 t] 37)) [.slice none 0 0, .bool false, .int .i64 0] 39
    rw [World.size_alloc] at this
    exact this.alloc _
  have hr2 : Row w3 (w.heap.size + 1 + 1) 39 [.slice none 0 0, .bool false, .int .i64 0] := by
    rw [hw3]
    have := Row.new ((w.alloc (.cells #[.int .i64 K, .int .i64 s, .slice aB nB cB, .slice aK nK cK, .int .i64 t] 37)).alloc (.cells #[.slice none 0 0, .bool false, .int .i64 0] 39)) [.slice none 0 0, .bool false, .int .i64 0] 39
    rw [World.size_alloc, World.size_alloc] at this
    exact this
  obtain ⟨col3, hcol3⟩ : ∃ x, x = recol col w.heap.size 7 := ⟨_, rfl⟩
  have K3 : Hid (St (D9 c cd) col w col3 w3) := Lib.hid (by rw [hcol3]; exact St.new hb3 _ col 7)
  have H3 : Hid (CkAt c cd col3 w3 b bd C) := Lib.hid (by rw [hcol3]; exact h.st (St.new hb3 (fun _ => False) col 7) (fun h => h) (fun h => h) (fun h => h))
  have X3 : Hid (Bx col3 w3 w.heap.size (w.heap.size + 1) (w.heap.size + 1 + 1) [.int .i64 K, .int .i64 s, .slice aB nB cB, .slice aK nK cK, .int .i64 t] [.slice none 0 0, .bool false, .int .i64 0]) := Lib.hid (by
    rw [hcol3]
    exact ⟨hr0, hr1, hr2, recol_ge (Nat.le_refl _), recol_ge (Nat.le_succ _), recol_ge (by omega), by omega, by omega⟩)
  have SB := Lib.hid (hl.below hb3)
  have HS := Lib.hid hb3.size
  clear h hl hr0 hr1 hr2 hcol3 hb3
  go_enter Try.func12, Try.ntmps12
  go_upto_region 2 with fail
  rw [← hw3]
  clear hw3
  have c7 : ¬ c = 7 := fun e => hc7 (.inl e.symm)
  have d7 : ¬ cd = 7 := fun e => hc7 (.inr e.symm)
  have c9 : ¬ c = 9 := fun e => hc9 (.inl e.symm)
  have d9 : ¬ cd = 9 := fun e => hc9 (.inr e.symm)
  have HLL := Lib.hid HL
  clear HL
  rcases okinds K with rfl | rfl | rfl | rfl | rfl | rfl | rfl | rfl | rfl | ⟨k0, k1, k2, k3, k4, k5, k6, k7, k8, n0, n1, n2, n3, n4, n5, n6, n7, n8⟩
  · have e0 : w3.cell? ⟨w.heap.size, 0, none⟩ = some (.int .i64 0) := X3.out.r0.cell 0
    have e1 : w3.cell? ⟨w.heap.size, 1, none⟩ = some (.int .i64 s) := X3.out.r0.cell 1
    try go_frame
    go_wp2_with fail
    refine (cread_q c cd col3 b bd C n N w3 H3.out HLL.out hN hcc hn s).mono ?_
    rintro e w4 hrd
    clear e0 e1
    rcases hrd with ⟨C4, a4, c4, col4, rfl, HH⟩ | ⟨E, C4, hE, rfl, HH⟩
    · have K4 := Lib.hid (K3.out.trans (HH.out.2.1.mono (fun _ h => cd_d9 h)))
      have X4 := Lib.hid (X3.out.st HH.out.2.1 hc7)
      have H4 := Lib.hid HH.out.2.2.1
      have O4 := Lib.hid HH.out.2.2.2
      have R4 := Lib.hid HH.out.1
      clear HH K3 X3 H3
      go_wp2_with fail
      refine (twin_any a4 256 c4 _ w4 O4.out.1.sl (by decide)).mono ?_
      rintro e w5 ⟨v5, rfl, ho5, hb5⟩
      obtain ⟨a5, c5, rfl⟩ := ho5.form
      obtain ⟨col5, hcol5⟩ : ∃ x, x = recol col4 w4.heap.size 0 := ⟨_, rfl⟩
      have K5 : Hid (St (D9 c cd) col w col5 w5) := Lib.hid (by rw [hcol5]; exact K4.out.trans (St.new hb5 _ col4 0))
      have X5 : Hid (Bx col5 w5 w.heap.size (w.heap.size + 1) (w.heap.size + 1 + 1) _ _) := Lib.hid (by rw [hcol5]; exact X4.out.st (St.new hb5 (fun _ => False) col4 0) (fun h => h))
      have H5 : Hid (CkAt c cd col5 w5 b bd C4) := Lib.hid (by rw [hcol5]; exact H4.out.st (St.new hb5 (fun _ => False) col4 0) (fun h => h) (fun h => h) (fun h => h))
      have O5 : Hid (OwnC col5 w5 9 1 (.slice a4 256 c4) 256 (bvs (C4.F s).b)) := Lib.hid (by rw [hcol5]; exact O4.out.st (St.new hb5 (fun _ => False) col4 0) (fun h => h))
      have I5 : Hid (Imm col5 w5 (.slice a5 256 c5) (C4.F s).b) := Lib.hid (by rw [hcol5]; exact Imm.own ho5)
      have HLN : Hid (256 = (C4.F s).b.length) := Lib.hid (by have := O4.out.1.len.1; omega)
      clear ho5 hb5 hcol5 K4 X4 H4 O4
      go_wp2_with (refine wpL_storeRow rfl _ _ _ rfl (cs := [.slice a5 256 c5, .bool false, .int .i64 0]) rfl rfl X5.out.r2 (by kernel_rfl) rfl rfl ?_; intro w6 hg6 hr6)
      go_loopw [10] (fun v10 wr => ∃ (i : Nat) (l2 : List UInt8), i ≤ 256 ∧ v10 = .int .i64 (i : Nat) ∧ Hid (OwnC col5 wr 9 1 (.slice a4 256 c4) 256 (bvs l2)) ∧ Hid (St (D9 c cd) col w col5 wr) ∧ Hid (CkAt c cd col5 wr b bd C4) ∧ Hid (Bx col5 wr w.heap.size (w.heap.size + 1) (w.heap.size + 1 + 1) [.int .i64 0, .int .i64 s, .slice aB nB cB, .slice aK nK cK, .int .i64 t] [.slice a5 256 c5, .bool false, .int .i64 0]) ∧ Hid (Imm col5 wr (.slice a5 256 c5) (C4.F s).b)) (fun v10 _ => 256 - (intOf v10).toNat)
      case atStart => exact ⟨0, _, Nat.zero_le _, rfl, Lib.hid (O5.out.st (X5.out.k1 hg6) (by decide)), Lib.hid (K5.out.fresh1 hg6 (by omega)), Lib.hid (H5.out.st (X5.out.k1 hg6) (by decide) c7 d7), Lib.hid (X5.out.put hg6 hr6), Lib.hid (I5.out.st (X5.out.k1 hg6) (by decide))⟩
      case round =>
        clear O5 K5 H5 X5 I5
        obtain ⟨i, l2, hi, rfl, O, K, H, X, I⟩ := hrel
        by_cases hlt' : (i : Int) < 256
        · have hlt : i < 256 := by omega
          obtain ⟨g, off, cap, he, hg1, hg2, hg3, hg4, hlen⟩ := O.out.1.open (by omega) (by decide)
          cases he
          have hl2 : l2.length = 256 := by rw [bvs_length] at hlen; omega
          have hc := O.out.1.get i (by rw [bvs_length]; omega)
          have hf := O.out.1.free i (by rw [bvs_length]; omega)
          rw [bvs_get _ _ (by omega)] at hc
          generalize hz : l2.getD i 0 = z at hc
          clear hz hl2 hlen hg1
          go_wp2_with (refine wpL_storeOwn (g := 0) rfl _ _ _ rfl (v := .int .u8 ((85 : UInt8).toNat : Int)) rfl rfl rfl rfl (by kernel_rfl) O.out.1 i rfl (by rw [bvs_length]; have := O.out.1.len; omega) ?_; intro w8 hg8 ho8)
          rw [bvs_set] at ho8
          have k8 : St (fun x => x = 9) col5 _ col5 w8 := St.one hg8 _ _ (O.out.2 g rfl)
          exact ⟨⟨i + 1, _, hlt, by go_num, Lib.hid ⟨ho8, O.out.2⟩, Lib.hid (K.out.trans (k8.mono (fun _ h => .inr (.inr h)))), Lib.hid (H.out.st k8 (by decide) c9 d9), Lib.hid (X.out.st k8 (by decide)), Lib.hid (I.out.st k8 (by decide))⟩, by simp [intOf]; omega⟩
        · go_wp2_with (first | refine wpL_loadRow rfl _ _ rfl rfl X.out.r2 Try.underlying39 rfl (by kernel_rfl) ?_ | (refine wpL_storeRow rfl _ _ _ rfl rfl rfl X.out.r1 (by kernel_rfl) rfl rfl ?_; intro w9 hg9 hr9))
          (try simp only [Exit.inBlock, Exit.then])
          refine bodyPost_ret (results_cell_row Try.results12 _ _ (w.heap.size + 1) 39 _ (0, 0) _ rfl hr9 Try.underlying39 rfl (by kernel_rfl)) rfl ⟨_, _, _, _, _, rfl, C4, (C4.F s).b, col5, Lib.hid ⟨?_, (.inl ⟨rfl, rfl, R4.out, by rw [if_pos rfl]⟩), K.out.fresh1 hg9 (Nat.le_succ _), H.out.st (X.out.k2 hg9) (by decide) c7 d7, I.out.st (X.out.k2 hg9) (by decide)⟩⟩
          exact HLN.out
    · obtain ⟨col4, k4, h4⟩ := HH.out.2
      have K4 := Lib.hid (K3.out.trans (k4.mono (fun _ h => cd_d9 h)))
      have X4 := Lib.hid (X3.out.st k4 hc7)
      have H4 := Lib.hid h4
      have R4 := Lib.hid HH.out.1
      clear HH K3 X3 H3 k4 h4
      have hE0 : ¬ E = 0 := by omega
      go_wp2_with fail
      refine (twin_any none 0 0 [] w4 (Sl.nil _ _) (by decide)).mono ?_
      rintro e w5 ⟨v5, rfl, ho5, hb5⟩
      obtain ⟨a5, c5, rfl⟩ := ho5.form
      obtain ⟨col5, hcol5⟩ : ∃ x, x = recol col4 w4.heap.size 0 := ⟨_, rfl⟩
      have K5 : Hid (St (D9 c cd) col w col5 w5) := Lib.hid (by rw [hcol5]; exact K4.out.trans (St.new hb5 _ col4 0))
      have X5 : Hid (Bx col5 w5 w.heap.size (w.heap.size + 1) (w.heap.size + 1 + 1) _ _) := Lib.hid (by rw [hcol5]; exact X4.out.st (St.new hb5 (fun _ => False) col4 0) (fun h => h))
      have H5 : Hid (CkAt c cd col5 w5 b bd C4) := Lib.hid (by rw [hcol5]; exact H4.out.st (St.new hb5 (fun _ => False) col4 0) (fun h => h) (fun h => h) (fun h => h))
      have I5 : Hid (Imm col5 w5 (.slice a5 0 c5) []) := Lib.hid (by rw [hcol5]; exact Imm.own ho5)
      clear ho5 hb5 hcol5 K4 X4 H4 hE
      go_wp2_with (refine wpL_storeRow rfl _ _ _ rfl (cs := [.slice a5 0 c5, .bool false, .int .i64 E]) rfl rfl X5.out.r2 (by kernel_rfl) rfl rfl ?_; intro w6 hg6 hr6)
      have K : Hid _ := Lib.hid (K5.out.fresh1 hg6 (by omega))
      have H : Hid _ := Lib.hid (H5.out.st (X5.out.k1 hg6) (by decide) c7 d7)
      have X : Hid _ := Lib.hid (X5.out.put hg6 hr6)
      have I : Hid _ := Lib.hid (I5.out.st (X5.out.k1 hg6) (by decide))
      clear K5 H5 X5 I5 hg6 hr6
      go_loopw [10] (fun v10 wr => v10 = .int .i64 0 ∧ wr = w6) (fun _ _ => 0)
      case atStart => exact ⟨rfl, rfl⟩
      case round =>
        obtain ⟨rfl, rfl⟩ := hrel
        go_wp2_with (first | refine wpL_loadRow rfl _ _ rfl rfl X.out.r2 Try.underlying39 rfl (by kernel_rfl) ?_ | (refine wpL_storeRow rfl _ _ _ rfl rfl rfl X.out.r1 (by kernel_rfl) rfl rfl ?_; intro w9 hg9 hr9))
        (try simp only [Exit.inBlock, Exit.then])
        refine bodyPost_ret (results_cell_row Try.results12 _ _ (w.heap.size + 1) 39 _ (0, 0) _ rfl hr9 Try.underlying39 rfl (by kernel_rfl)) rfl ⟨_, _, _, _, _, rfl, C4, [], col5, Lib.hid ⟨?_, (.inl ⟨rfl, rfl, R4.out, by rw [if_neg hE0]⟩), K.out.fresh1 hg9 (Nat.le_succ _), H.out.st (X.out.k2 hg9) (by decide) c7 d7, I.out.st (X.out.k2 hg9) (by decide)⟩⟩
        rfl
  · have e0 : w3.cell? ⟨w.heap.size, 0, none⟩ = some (.int .i64 1) := X3.out.r0.cell 0
    have e2 : w3.cell? ⟨w.heap.size, 2, none⟩ = some (.slice aB nB cB) := X3.out.r0.cell 2
    try go_frame
    go_wp2_with fail
    refine (twin_any aB nB cB l w3 SB.out (by omega)).mono ?_
    rintro e w4 ⟨v4, rfl, ho4, hb4⟩
    obtain ⟨a4, c4, rfl⟩ := ho4.form
    clear e0 e2
    obtain ⟨col4, hcol4⟩ : ∃ x, x = recol col3 w3.heap.size 9 := ⟨_, rfl⟩
    have K4 : Hid (St (D9 c cd) col w col4 w4) := Lib.hid (by rw [hcol4]; exact K3.out.trans (St.new hb4 _ col3 9))
    have X4 : Hid (Bx col4 w4 w.heap.size (w.heap.size + 1) (w.heap.size + 1 + 1) _ _) := Lib.hid (by rw [hcol4]; exact X3.out.st (St.new hb4 (fun _ => False) col3 9) (fun h => h))
    have H4 : Hid (CkAt c cd col4 w4 b bd C) := Lib.hid (by rw [hcol4]; exact H3.out.st (St.new hb4 (fun _ => False) col3 9) (fun h => h) (fun h => h) (fun h => h))
    have O4 : Hid (OwnC col4 w4 9 1 (.slice a4 nB c4) nB (bvs l)) := Lib.hid (by rw [hcol4]; exact OwnC.new ho4)
    clear ho4 hb4 hcol4 K3 X3 H3
    have e1 : w4.cell? ⟨w.heap.size, 1, none⟩ = some (.int .i64 s) := X4.out.r0.cell 1
    go_wp2_with fail
    refine (cwr_q c cd col4 b bd C n N w4 H4.out HLL.out hN hcc hn s a4 nB c4 l O4.out.1.sl (fun _ x hx => by rw [O4.out.2 x hx]; exact hc9)).mono ?_
    rintro e w5 ⟨E, C5, rfl, HH⟩
    clear e1
    obtain ⟨col5, k5, h5⟩ := HH.out.2
    have K5 := Lib.hid (K4.out.trans (k5.mono (fun _ h => cd_d9 h)))
    have X5 := Lib.hid (X4.out.st k5 hc7)
    have O5 := Lib.hid (O4.out.st k5 hc9)
    have H5 := Lib.hid h5
    have R5 := Lib.hid HH.out.1
    clear k5 h5 HH K4 X4 H4 O4
    go_wp2_with (refine wpL_storeAt rfl _ _ _ rfl rfl rfl rfl rfl (by kernel_rfl) X5.out.r2 rfl ?_; intro w6 hg6 hr6)
    go_loopw [12] (fun v12 wr => ∃ (i : Nat) (l2 : List UInt8), i ≤ nB ∧ v12 = .int .i64 (i : Nat) ∧ Hid (OwnC col5 wr 9 1 (.slice a4 nB c4) nB (bvs l2)) ∧ Hid (St (D9 c cd) col w col5 wr) ∧ Hid (CkAt c cd col5 wr b bd C5) ∧ Hid (Bx col5 wr w.heap.size (w.heap.size + 1) (w.heap.size + 1 + 1) [.int .i64 1, .int .i64 s, .slice aB nB cB, .slice aK nK cK, .int .i64 t] [.slice none 0 0, .bool false, .int .i64 E])) (fun v12 _ => nB - (intOf v12).toNat)
    case atStart => exact ⟨0, _, Nat.zero_le _, rfl, Lib.hid (O5.out.st (X5.out.k1 hg6) (by decide)), Lib.hid (K5.out.fresh1 hg6 (by omega)), Lib.hid (H5.out.st (X5.out.k1 hg6) (by decide) c7 d7), Lib.hid (X5.out.put hg6 hr6)⟩
    case round =>
      clear O5 K5 H5 X5
      obtain ⟨i, l2, hi, rfl, O, K, H, X⟩ := hrel
      by_cases hlt' : (i : Int) < nB
      · have hlt : i < nB := by omega
        obtain ⟨g, off, cap, he, hg1, hg2, hg3, hg4, hlen⟩ := O.out.1.open (by omega) (by decide)
        cases he
        have hl2 : l2.length = nB := by rw [bvs_length] at hlen; omega
        have hc := O.out.1.get i (by rw [bvs_length]; omega)
        have hf := O.out.1.free i (by rw [bvs_length]; omega)
        rw [bvs_get _ _ (by omega)] at hc
        generalize hz : l2.getD i 0 = z at hc
        clear hz hl2 hlen hg1
        go_wp2_with (refine wpL_storeOwn (g := 0) rfl _ _ _ rfl (v := .int .u8 ((85 : UInt8).toNat : Int)) rfl rfl rfl rfl (by kernel_rfl) O.out.1 i rfl (by rw [bvs_length]; have := O.out.1.len; omega) ?_; intro w8 hg8 ho8)
        rw [bvs_set] at ho8
        have k8 : St (fun x => x = 9) col5 _ col5 w8 := St.one hg8 _ _ (O.out.2 g rfl)
        exact ⟨⟨i + 1, _, hlt, by go_num, Lib.hid ⟨ho8, O.out.2⟩, Lib.hid (K.out.trans (k8.mono (fun _ h => .inr (.inr h)))), Lib.hid (H.out.st k8 (by decide) c9 d9), Lib.hid (X.out.st k8 (by decide))⟩, by simp [intOf]; omega⟩
      · have I := Lib.hid (Imm.nil col5 wr)
        go_wp2_with (first | refine wpL_loadRow rfl _ _ rfl rfl X.out.r2 Try.underlying39 rfl (by kernel_rfl) ?_ | (refine wpL_storeRow rfl _ _ _ rfl rfl rfl X.out.r1 (by kernel_rfl) rfl rfl ?_; intro w9 hg9 hr9))
        (try simp only [Exit.inBlock, Exit.then])
        refine bodyPost_ret (results_cell_row Try.results12 _ _ (w.heap.size + 1) 39 _ (0, 0) _ rfl hr9 Try.underlying39 rfl (by kernel_rfl)) rfl ⟨_, _, _, _, _, rfl, C5, [], col5, Lib.hid ⟨?_, (.inr (.inl ⟨rfl, rfl, rfl, R5.out⟩)), K.out.fresh1 hg9 (Nat.le_succ _), H.out.st (X.out.k2 hg9) (by decide) c7 d7, I.out.st (X.out.k2 hg9) (by decide)⟩⟩
        rfl
  · have e0 : w3.cell? ⟨w.heap.size, 0, none⟩ = some (.int .i64 2) := X3.out.r0.cell 0
    have e1 : w3.cell? ⟨w.heap.size, 1, none⟩ = some (.int .i64 s) := X3.out.r0.cell 1
    try go_frame
    go_wp2_with fail
    refine (pin_q c cd col3 b bd C n N w3 H3.out HLL.out hN hcc hn s).mono ?_
    rintro e w5 ⟨E, C5, rfl, HH⟩
    clear e0 e1
    obtain ⟨col5, k5, h5⟩ := HH.out.2
    have R5 := Lib.hid HH.out.1
    have K5 := Lib.hid (K3.out.trans ((k5).mono (fun _ h => cd_d9 h)))
    have X5 := Lib.hid (X3.out.st k5 hc7)
    have H5 := Lib.hid h5
    clear K3 X3 H3
    clear k5 h5 HH
    go_wp2_with (first | (refine wpL_storeAt rfl _ _ _ rfl (v := .int .i64 E) rfl rfl rfl rfl (by kernel_rfl) X5.out.r2 rfl ?_; intro w6 hg6 hr6) | refine wpL_loadRow rfl _ _ rfl rfl hr6 Try.underlying39 rfl (by kernel_rfl) ?_ | (refine wpL_storeRow rfl _ _ _ rfl rfl rfl (X5.out.r1.grown hg6 (fun e => X5.out.n1 (Option.some.inj e))) (by kernel_rfl) rfl rfl ?_; intro w9 hg9 hr9))
    have X : Hid (Bx col5 w6 w.heap.size (w.heap.size + 1) (w.heap.size + 1 + 1) _ _) := Lib.hid (X5.out.put hg6 hr6)
    have K := Lib.hid (K5.out.fresh1 hg6 (by omega))
    have H := Lib.hid (H5.out.st (X5.out.k1 hg6) (by decide) c7 d7)
    have I := Lib.hid (Imm.nil col5 w6)
    clear K5 X5 H5 hg6 hr6
    (try simp only [Exit.inBlock, Exit.then])
    refine bodyPost_ret (results_cell_row Try.results12 _ _ (w.heap.size + 1) 39 _ (0, 0) _ rfl hr9 Try.underlying39 rfl (by kernel_rfl)) rfl ⟨_, _, _, _, _, rfl, C5, [], col5, Lib.hid ⟨?_, (.inr (.inr (.inl ⟨rfl, rfl, rfl, R5.out⟩))), K.out.fresh1 hg9 (Nat.le_succ _), H.out.st (X.out.k2 hg9) (by decide) c7 d7, I.out.st (X.out.k2 hg9) (by decide)⟩⟩
    rfl
  · have e0 : w3.cell? ⟨w.heap.size, 0, none⟩ = some (.int .i64 3) := X3.out.r0.cell 0
    have e1 : w3.cell? ⟨w.heap.size, 1, none⟩ = some (.int .i64 s) := X3.out.r0.cell 1
    try go_frame
    go_wp2_with fail
    refine (unpin_q c cd col3 b bd C n N w3 H3.out HLL.out hN hcc hn s hs).mono ?_
    rintro e w5 ⟨E, C5, rfl, HH⟩
    clear e0 e1
    obtain ⟨col5, k5, h5⟩ := HH.out.2
    have R5 := Lib.hid HH.out.1
    have K5 := Lib.hid (K3.out.trans ((k5).mono (fun _ h => cd_d9 h)))
    have X5 := Lib.hid (X3.out.st k5 hc7)
    have H5 := Lib.hid h5
    clear K3 X3 H3
    clear k5 h5 HH
    go_wp2_with (first | (refine wpL_storeAt rfl _ _ _ rfl (v := .int .i64 E) rfl rfl rfl rfl (by kernel_rfl) X5.out.r2 rfl ?_; intro w6 hg6 hr6) | refine wpL_loadRow rfl _ _ rfl rfl hr6 Try.underlying39 rfl (by kernel_rfl) ?_ | (refine wpL_storeRow rfl _ _ _ rfl rfl rfl (X5.out.r1.grown hg6 (fun e => X5.out.n1 (Option.some.inj e))) (by kernel_rfl) rfl rfl ?_; intro w9 hg9 hr9))
    have X : Hid (Bx col5 w6 w.heap.size (w.heap.size + 1) (w.heap.size + 1 + 1) _ _) := Lib.hid (X5.out.put hg6 hr6)
    have K := Lib.hid (K5.out.fresh1 hg6 (by omega))
    have H := Lib.hid (H5.out.st (X5.out.k1 hg6) (by decide) c7 d7)
    have I := Lib.hid (Imm.nil col5 w6)
    clear K5 X5 H5 hg6 hr6
    (try simp only [Exit.inBlock, Exit.then])
    refine bodyPost_ret (results_cell_row Try.results12 _ _ (w.heap.size + 1) 39 _ (0, 0) _ rfl hr9 Try.underlying39 rfl (by kernel_rfl)) rfl ⟨_, _, _, _, _, rfl, C5, [], col5, Lib.hid ⟨?_, (.inr (.inr (.inr (.inl ⟨rfl, rfl, rfl, R5.out⟩)))), K.out.fresh1 hg9 (Nat.le_succ _), H.out.st (X.out.k2 hg9) (by decide) c7 d7, I.out.st (X.out.k2 hg9) (by decide)⟩⟩
    rfl
  · have e0 : w3.cell? ⟨w.heap.size, 0, none⟩ = some (.int .i64 4) := X3.out.r0.cell 0
    have e1 : w3.cell? ⟨w.heap.size, 1, none⟩ = some (.int .i64 s) := X3.out.r0.cell 1
    try go_frame
    go_wp2_with fail
    refine (evict_q c cd col3 b bd C n N w3 H3.out HLL.out hN hcc hn s hs2).mono ?_
    rintro e w5 ⟨is, C5, rfl, HH⟩
    clear e0 e1
    obtain ⟨col5, k5, h5⟩ := HH.out.2
    have R5 := Lib.hid HH.out.1
    have K5 := Lib.hid (K3.out.trans ((k5).mono (fun _ h => cd_d9 h)))
    have X5 := Lib.hid (X3.out.st k5 hc7)
    have H5 := Lib.hid h5
    clear K3 X3 H3
    clear k5 h5 HH
    go_wp2_with (first | (refine wpL_storeAt rfl _ _ _ rfl (v := .bool is) rfl rfl rfl rfl (by kernel_rfl) X5.out.r2 rfl ?_; intro w6 hg6 hr6) | (refine wpL_storeAt rfl _ _ _ rfl (v := .int .i64 0) rfl rfl rfl rfl (by kernel_rfl) hr6 rfl ?_; intro w7 hg7 hr7) | refine wpL_loadRow rfl _ _ rfl rfl hr7 Try.underlying39 rfl (by kernel_rfl) ?_ | (refine wpL_storeRow rfl _ _ _ rfl rfl rfl ((X5.out.r1.grown hg6 (fun e => X5.out.n1 (Option.some.inj e))).grown hg7 (fun e => X5.out.n1 (Option.some.inj e))) (by kernel_rfl) rfl rfl ?_; intro w9 hg9 hr9))
    have X : Hid (Bx col5 w6 w.heap.size (w.heap.size + 1) (w.heap.size + 1 + 1) _ _) := Lib.hid (X5.out.put hg6 hr6)
    have K := Lib.hid (K5.out.fresh1 hg6 (by omega))
    have H := Lib.hid (H5.out.st (X5.out.k1 hg6) (by decide) c7 d7)
    have I := Lib.hid (Imm.nil col5 w6)
    clear K5 X5 H5 hg6 hr6
    have X' := Lib.hid (X.out.put hg7 hr7)
    have K' := Lib.hid (K.out.fresh1 hg7 (by omega))
    have H' := Lib.hid (H.out.st (X.out.k1 hg7) (by decide) c7 d7)
    have I' := Lib.hid (I.out.st (X.out.k1 hg7) (by decide))
    clear X K H I hg7 hr7
    have X := X'
    have K := K'
    have H := H'
    have I := I'
    clear X' K' H' I'
    (try simp only [Exit.inBlock, Exit.then])
    refine bodyPost_ret (results_cell_row Try.results12 _ _ (w.heap.size + 1) 39 _ (0, 0) _ rfl hr9 Try.underlying39 rfl (by kernel_rfl)) rfl ⟨_, _, _, _, _, rfl, C5, [], col5, Lib.hid ⟨?_, (.inr (.inr (.inr (.inr (.inl ⟨rfl, rfl, rfl, R5.out⟩))))), K.out.fresh1 hg9 (Nat.le_succ _), H.out.st (X.out.k2 hg9) (by decide) c7 d7, I.out.st (X.out.k2 hg9) (by decide)⟩⟩
    rfl
  · exact absurd rfl hK.1
  · have e0 : w3.cell? ⟨w.heap.size, 0, none⟩ = some (.int .i64 6) := X3.out.r0.cell 0
    try go_frame
    go_wp2_with fail
    refine (flush_q c cd col3 b bd C n N w3 H3.out HLL.out hN hcc hn).mono ?_
    rintro e w5 ⟨rfl, C5, HH⟩
    clear e0
    obtain ⟨col5, k5, h5⟩ := HH.out.2
    have R5 := Lib.hid HH.out.1
    have K5 := Lib.hid (K3.out.trans ((k5).mono (fun _ h => cd_d9 h)))
    have X5 := Lib.hid (X3.out.st k5 hc7)
    have H5 := Lib.hid h5
    clear K3 X3 H3
    clear k5 h5 HH
    go_wp2_with (first | (refine wpL_storeAt rfl _ _ _ rfl (v := .int .i64 0) rfl rfl rfl rfl (by kernel_rfl) X5.out.r2 rfl ?_; intro w6 hg6 hr6) | refine wpL_loadRow rfl _ _ rfl rfl hr6 Try.underlying39 rfl (by kernel_rfl) ?_ | (refine wpL_storeRow rfl _ _ _ rfl rfl rfl (X5.out.r1.grown hg6 (fun e => X5.out.n1 (Option.some.inj e))) (by kernel_rfl) rfl rfl ?_; intro w9 hg9 hr9))
    have X : Hid (Bx col5 w6 w.heap.size (w.heap.size + 1) (w.heap.size + 1 + 1) _ _) := Lib.hid (X5.out.put hg6 hr6)
    have K := Lib.hid (K5.out.fresh1 hg6 (by omega))
    have H := Lib.hid (H5.out.st (X5.out.k1 hg6) (by decide) c7 d7)
    have I := Lib.hid (Imm.nil col5 w6)
    clear K5 X5 H5 hg6 hr6
    (try simp only [Exit.inBlock, Exit.then])
    refine bodyPost_ret (results_cell_row Try.results12 _ _ (w.heap.size + 1) 39 _ (0, 0) _ rfl hr9 Try.underlying39 rfl (by kernel_rfl)) rfl ⟨_, _, _, _, _, rfl, C5, [], col5, Lib.hid ⟨?_, (.inr (.inr (.inr (.inr (.inr (.inl ⟨rfl, rfl, rfl, rfl, R5.out⟩)))))), K.out.fresh1 hg9 (Nat.le_succ _), H.out.st (X.out.k2 hg9) (by decide) c7 d7, I.out.st (X.out.k2 hg9) (by decide)⟩⟩
    rfl
  · exact absurd rfl hK.2.1
  · exact absurd rfl hK.2.2
  · have e0 : w3.cell? ⟨w.heap.size, 0, none⟩ = some (.int .i64 K) := X3.out.r0.cell 0
    have HNK : Hid (K ≠ 0 ∧ K ≠ 1 ∧ K ≠ 2 ∧ K ≠ 3 ∧ K ≠ 4 ∧ K ≠ 6) := Lib.hid ⟨n0, n1, n2, n3, n4, n6⟩
    clear n0 n1 n2 n3 n4 n5 n6 n7 n8 hK
    have K := K3
    have H := H3
    have X := X3
    have I := Lib.hid (Imm.nil col3 w3)
    clear K3 H3 X3
    try go_frame
    go_wp2_with (first | refine wpL_loadRow rfl _ _ rfl rfl X.out.r2 Try.underlying39 rfl (by kernel_rfl) ?_ | (refine wpL_storeRow rfl _ _ _ rfl rfl rfl X.out.r1 (by kernel_rfl) rfl rfl ?_; intro w9 hg9 hr9))
    (try simp only [Exit.inBlock, Exit.then])
    refine bodyPost_ret (results_cell_row Try.results12 _ _ (w.heap.size + 1) 39 _ (0, 0) _ rfl hr9 Try.underlying39 rfl (by kernel_rfl)) rfl ⟨_, _, _, _, _, rfl, C, [], col3, Lib.hid ⟨?_, (.inr (.inr (.inr (.inr (.inr (.inr ⟨HNK.out, rfl, rfl, rfl, rfl⟩)))))), K.out.fresh1 hg9 (Nat.le_succ _), H.out.st (X.out.k2 hg9) (by decide) c7 d7, I.out.st (X.out.k2 hg9) (by decide)⟩⟩
    rfl
end Go.Proofs.Ytchjfmgfoifbcaa
