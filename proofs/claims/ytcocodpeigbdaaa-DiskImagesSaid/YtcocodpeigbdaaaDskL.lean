/-
  A step of the law's ('Do', 'meant'): what it answers and makes of a disk. Conditions: the disk reads as one, the step's slices read.
-/
import Derived.Test.YtcocodpeigbdaaaDskF
import Derived.Test.YtcocodpeigbdaaaDskG
namespace Go.Proofs.Ytcocodpeigbdaaa
open Go.RowKit
set_option linter.unusedVariables false
set_option linter.unusedSimpArgs false

/-! ### what a step comes to -/
def doE (D : Dk) (K s : Int) (l : List UInt8) : Int := if K = 0 then readE D s else if K = 1 then writeE D s l else if K = 2 then barrierE D else if K = 3 then armE D s else if K = 4 then 0 else if K = 5 then onE D else 0
def doB (D : Dk) (K s : Int) : List UInt8 := if K = 0 then readB D s else []
def doD (D : Dk) (K s : Int) (l : List UInt8) (keep : List Int) : Dk := if K = 0 then D else if K = 1 then writeD D s l else if K = 2 then barrierD D else if K = 3 then armD D s else if K = 4 then offD D else if K = 5 then onD D keep s else D
theorem writeD_fits {D : Dk} {k : Nat} (h : D.Fits k) (s : Int) (l : List UInt8) : (writeD D s l).Fits (k + 2) := by
  unfold writeD
  split
  · exact h.le (by omega)
  · split
    · exact h.le (by omega)
    · rename_i h2
      have h2 : writeIs D s l = true := by simpa using h2
      simp only [writeIs, Bool.and_eq_true, decide_eq_true_eq] at h2
      obtain ⟨q, rfl, hq⟩ := inD_nat h2.1
      exact (h.write hq h2.2).step
theorem barrierD_fits {D : Dk} {k : Nat} (h : D.Fits k) : (barrierD D).Fits (k + 2) := by
  unfold barrierD
  split
  · exact h.le (by omega)
  · split
    · exact h.step.le (by omega)
    · exact (h.step.settle allF_sane).le (by omega)
theorem Dk.Fits.field {D : Dk} {k : Nat} (h : D.Fits k) (dead : Bool) {armed : Int} (ha : armed ≤ 9223372036854775807) : (⟨D.S, D.P, dead, armed, D.steps⟩ : Dk).Fits (k + 2) :=
  Dk.Fits.le (k := k) ⟨⟨h.fit.at_, h.fit.sl, h.fit.pl⟩, ha, h.pen, h.st0, h.st1, h.sec⟩ (by omega)
theorem armD_fits {D : Dk} {k : Nat} (h : D.Fits k) {n : Int} (hn : n ≤ 9223372036854775807) : (armD D n).Fits (k + 2) := by
  unfold armD
  split
  · exact h.le (by omega)
  · split
    · exact h.le (by omega)
    · exact h.field _ hn
theorem offD_fits {D : Dk} {k : Nat} (h : D.Fits k) : (offD D).Fits (k + 2) := h.field _ h.arm
theorem onD_fits {D : Dk} {k : Nat} (h : D.Fits k) (keep : List Int) (torn : Int) : (onD D keep torn).Fits (k + 2) := by
  unfold onD
  split
  · have h2 := h.settle (keepF_sane keep torn)
    exact h2.field _ (by decide)
  · exact h.le (by omega)
theorem doD_fits {D : Dk} {k : Nat} (h : D.Fits k) (K s : Int) (l : List UInt8) (keep : List Int) (hs : s ≤ 9223372036854775807) : (doD D K s l keep).Fits (k + 2) := by
  unfold doD
  split
  · exact h.le (by omega)
  split
  · exact writeD_fits h s l
  split
  · exact barrierD_fits h
  split
  · exact armD_fits h hs
  split
  · exact offD_fits h
  split
  · exact onD_fits h keep s
  · exact h.le (by omega)
theorem newD_fits {n : Nat} (hn : n ≤ 4096) : (newD n).Fits 0 := by
  refine ⟨⟨fun p hp => (List.not_mem_nil hp).elim, fun l hl => ?_, fun p hp => (List.not_mem_nil hp).elim⟩, by simp [newD], Nat.zero_le _, Int.le_refl 0, Int.le_refl 0, ?_⟩
  · rw [List.eq_of_mem_replicate hl, List.length_replicate]
    exact Nat.le_refl _
  · show (List.replicate n (List.replicate 256 0)).length ≤ _
    rw [List.length_replicate]; omega
theorem doD_len (D : Dk) (K s : Int) (l : List UInt8) (keep : List Int) : (doD D K s l keep).S.length = D.S.length := by
  have h1 : ∀ D : Dk, (stepD D).S = D.S := fun D => (stepD_fields D).1
  unfold doD
  split
  · rfl
  split
  · unfold writeD; split
    · rfl
    · split
      · rfl
      · rw [h1]; rfl
  split
  · unfold barrierD; split
    · rfl
    · split
      · rw [h1]
      · show (settleN allF (stepD D).S (stepD D).P (stepD D).P.length).length = _
        rw [settleN_len, h1]
  split
  · unfold armD; split
    · rfl
    · split <;> rfl
  split
  · rfl
  split
  · unfold onD; split
    · show (settleN _ D.S D.P D.P.length).length = _
      rw [settleN_len]
    · rfl
  · rfl

/-- what a step leaves: the disk, and new bytes of colour 9 -/
def DidP (e : TypeId) (c : Nat) (col : Nat → Nat) (w : World) (b : Nat) (D : Dk) (v : Value) (B : List UInt8) (w' : World) : Prop := ∃ col', St (fun x => x = c) col w col' w' ∧ DkAt e c col' w' b D ∧ OwnC col' w' 9 1 v B.length (bvs B)
theorem DidP.made {e : TypeId} {c : Nat} {col : Nat → Nat} {w w1 w' : World} {b : Nat} {D : Dk} (hb : Below w.heap.size w w1) (h : Made e c col w1 b D w') : DidP e c col w b D (.slice none 0 0) [] w' := by
  obtain ⟨col', k, hd⟩ := h
  exact ⟨col', (St.fresh hb _ _).trans k, hd, OwnC.nil _ _ _ _⟩
theorem DidP.read {e : TypeId} {c : Nat} {col : Nat → Nat} {w w1 w' : World} {b : Nat} {D : Dk} {v : Value} {B : List UInt8} (hb : Below w.heap.size w w1) (h : DkAt e c col w1 b D) (ho : Own w' w1.heap.size 1 v B.length (bvs B)) (hb2 : Below w1.heap.size w1 w') : DidP e c col w b D v B w' := by
  have k1 : St (fun x => x = c) col w col w1 := St.fresh hb _ _
  have k2 : St (fun x => x = c) col w1 (recol col w1.heap.size 9) w' := St.new hb2 _ _ _
  have k3 : St (fun _ => False) col w1 (recol col w1.heap.size 9) w' := St.new hb2 _ _ _
  exact ⟨_, k1.trans k2, h.st k3 (fun h => h) (fun h => h), ho.mono (Nat.zero_le _), fun g hg => recol_ge (ho.lt g hg)⟩
theorem St.fresh1 {C : Nat → Prop} {col col1 : Nat → Nat} {w w1 w2 : World} {g : Nat} (h : St C col w col1 w1) (hg : w1.grownBy w2 (some g)) (hs : w.heap.size ≤ g) : St C col w col1 w2 :=
  ⟨h.mods.after (Mods.grown hg) (fun q e => by cases e; exact .inr hs), h.ext⟩
theorem DkAt.nz {e : TypeId} {c : Nat} {col : Nat → Nat} {w : World} {b : Nat} {D : Dk} (h : DkAt e c col w b D) : c ≠ 0 := by
  obtain ⟨aS, cS, aP, cP, sv, pv, h⟩ := h
  exact h.nz
theorem kinds (K : Int) : K = 0 ∨ K = 1 ∨ K = 2 ∨ K = 3 ∨ K = 4 ∨ K = 5 ∨ ((K == 0) = false ∧ (K == 1) = false ∧ (K == 2) = false ∧ (K == 3) = false ∧ (K == 4) = false ∧ (K == 5) = false ∧ ¬ K = 0 ∧ ¬ K = 1 ∧ ¬ K = 2 ∧ ¬ K = 3 ∧ ¬ K = 4 ∧ ¬ K = 5) := by
  by_cases k0 : K = 0
  · exact .inl k0
  by_cases k1 : K = 1
  · exact .inr (.inl k1)
  by_cases k2 : K = 2
  · exact .inr (.inr (.inl k2))
  by_cases k3 : K = 3
  · exact .inr (.inr (.inr (.inl k3)))
  by_cases k4 : K = 4
  · exact .inr (.inr (.inr (.inr (.inl k4))))
  by_cases k5 : K = 5
  · exact .inr (.inr (.inr (.inr (.inr (.inl k5)))))
  exact .inr (.inr (.inr (.inr (.inr (.inr ⟨by simp [k0], by simp [k1], by simp [k2], by simp [k3], by simp [k4], by simp [k5], k0, k1, k2, k3, k4, k5⟩)))))
set_option maxHeartbeats 2000000 in
set_option maxRecDepth 10000 in
theorem do_p (c : Nat) (col : Nat → Nat) (b : Nat) (D : Dk) (k : Nat) (w : World) (K s : Int) (aB : Option Addr) (nB cB : Nat) (l : List UInt8) (aK : Option Addr) (nK cK : Nat) (keep : List Int) (h : DkAt 74 c col w b D) (hF : D.Fits k) (hkk : k < 1073741823) (hc9 : ¬ 9 = c)
    (hl : Sl w 1 (.slice aB nB cB) nB (bvs l)) (hn : nB ≤ 1048576) (hk : Sl w 1 (.slice aK nK cK) nK (ints keep)) (hka : keep ≠ [] → ∀ g, (Value.slice aK nK cK).ownBlock = some g → ¬ col g = c)
    (E : Int) (hE : Hid (E = doE D K s l)) (B : List UInt8) (hB : Hid (B = doB D K s)) (T : Dk) (hT : Hid (T = doD D K s l keep)) :
    Calls Try.prog 21 #[.pointer (some ⟨b, 0, none⟩), .agg #[.int .i64 K, .int .i64 s, .slice aB nB cB, .slice aK nK cK]] w fun e w' => ∃ v, e = .returned (.tuple #[v, .int .i64 E]) ∧ DidP 74 c col w b T v B w' := by
  have hb1 : Below w.heap.size w (w.alloc (.cells #[.int .i64 K, .int .i64 s, .slice aB nB cB, .slice aK nK cK] 42)) := (Below.refl _ _).alloc (Nat.le_refl _) _
  have h1 := h.st (St.fresh hb1 (fun _ => False) col) (fun h => h) (fun h => h)
  have hl1 := hl.below hb1
  have hk1 := hk.below hb1
  have HBB := Lib.hid hb1
  have HD := Lib.hid h1
  have HL := Lib.hid hl1
  have HK := Lib.hid hk1
  have HKA := Lib.hid hka
  clear hb1 h1 hl1 hk1 hka h hl hk
  rcases kinds K with rfl | rfl | rfl | rfl | rfl | rfl | ⟨k0, k1, k2, k3, k4, k5, n0, n1, n2, n3, n4, n5⟩
  · have HE : Hid (E = readE D s) := Lib.hid (hE.out.trans (by simp [doE]))
    have HB : Hid (B = readB D s) := Lib.hid (hB.out.trans (by simp [doB]))
    obtain rfl : T = D := hT.out.trans (by simp [doD])
    have hp := hF.pen
    have hBl : B.length ≤ 256 := by rw [HB.out]; exact readB_le hF.fit s
    clear hE hB hT
    go_enter Try.func21, Try.ntmps21
    go_wp2_with fail
    refine (read_p c col b T s _ B HD.out (by omega) hBl E HE HB).mono ?_
    rintro e w2 ⟨v, rfl, ho, hb2⟩
    go_wp2_with fail
    go_ret2
    exact ⟨v, rfl, DidP.read HBB.out HD.out ho hb2⟩
  · have HE : Hid (E = writeE D s l) := Lib.hid (hE.out.trans (by simp [doE]))
    obtain rfl : B = [] := hB.out.trans (by simp [doB])
    have HT : Hid (T = writeD D s l) := Lib.hid (hT.out.trans (by simp [doD]))
    clear hE hB hT
    have hr0 := Row.new w [.int .i64 1, .int .i64 s, .slice aB nB cB, .slice aK nK cK] 42
    have HR0 := Lib.hid hr0
    clear hr0
    go_enter Try.func21, Try.ntmps21
    go_wp2_with fail
    generalize (w.alloc (.cells #[.int .i64 1, .int .i64 s, .slice aB nB cB, .slice aK nK cK] 42)) = w1 at HBB HD HL HK HR0 ⊢
    refine (copyb_any aB nB cB l _ HL.out).mono ?_
    rintro e w2 ⟨v, rfl, ho, hb2⟩
    obtain ⟨a2, c2, rfl⟩ := ho.form
    have hr2 := HR0.out.after hb2
    have e1 : w2.cell? ⟨w.heap.size, 1, none⟩ = some (.int .i64 s) := hr2.cell 1
    have k2 : St (fun _ => False) col w1 (recol col w1.heap.size 9) w2 := St.new hb2 _ _ _
    have HK2 := Lib.hid k2
    have HD2 := Lib.hid (HD.out.st k2 (fun h => h) (fun h => h))
    have HO2 := Lib.hid ho
    have HC9 : Hid (∀ g, (Value.slice a2 nB c2).ownBlock = some g → recol col w1.heap.size 9 g = 9) := Lib.hid (fun g hg => recol_ge (ho.lt g hg))
    have HB2 := Lib.hid hb2
    clear ho hb2 k2 hr2
    go_wp2_with fail
    refine (write_p c _ b D s k a2 nB c2 l w2 HD2.out hF hkk HO2.out.sl E HE T HT).mono ?_
    rintro e w3 ⟨rfl, col3, k3, h3⟩
    have HO3 : Hid (Own w3 w1.heap.size 1 (.slice a2 nB c2) nB (bvs l)) := Lib.hid (HO2.out.mods k3.mods (fun g hg e => hc9 (by rw [← e]; exact (HC9.out g hg).symm)))
    have HC3 : Hid (∀ g, (Value.slice a2 nB c2).ownBlock = some g → col3 g = 9) := Lib.hid (fun g hg => (k3.ext g (HO2.out.lives g hg)).trans (HC9.out g hg))
    have HK3 : Hid (St (fun x => x = c) col w col3 w3) := Lib.hid (((St.fresh HBB.out _ _).trans (HK2.out.mono (fun _ h => h.elim))).trans k3)
    have HD3 := Lib.hid h3
    have hbw := HBB.out.size
    have HW := Lib.hid hbw
    clear k3 h3 hbw
    go_wp2_with fail
    go_loopw [8] (fun v8 wr => ∃ (i : Nat) (l2 : List UInt8), i ≤ nB ∧ v8 = .int .i64 i ∧ Hid (Own wr w1.heap.size 1 (.slice a2 nB c2) nB (bvs l2)) ∧ Hid (St (fun x => x = c) col w col3 wr) ∧ Hid (DkAt 74 c col3 wr b T)) (fun v8 _ => nB - (intOf v8).toNat)
    case atStart => exact ⟨0, l, Nat.zero_le _, rfl, HO3, HK3, HD3⟩
    case round =>
      obtain ⟨i, l2, hi, rfl, HO, HS, HDr⟩ := hrel
      by_cases hin : i = nB
      · subst hin
        go_wp2_with fail
        go_ret2
        exact ⟨_, rfl, col3, HS.out, HDr.out, OwnC.nil _ _ _ _⟩
      · have hlt : i < nB := by omega
        have hlt' : (i : Int) < nB := by omega
        obtain ⟨g, off, cap, he, hg1, hg2, hg3, hg4, hlen⟩ := HO.out.open (by omega) (by decide)
        cases he
        have hl2 : l2.length = nB := by rw [bvs_length] at hlen; omega
        have hc := HO.out.get i (by rw [bvs_length]; omega)
        have hf := HO.out.free i (by rw [bvs_length]; omega)
        rw [bvs_get _ _ (by omega)] at hc
        generalize hz : l2.getD i 0 = z at hc
        obtain ⟨y, hy⟩ : ∃ y : UInt8, y = z + 1 := ⟨_, rfl⟩
        have hy2 : (y.toNat : Int) = ((z.toNat : Int) + 1) % 256 := by rw [hy, UInt8.toNat_add]; simp
        have HG1 := Lib.hid hg1
        clear hz hy hl2 hlen hg1
        go_wp2_with (refine wpL_storeOwn (g := 0) rfl _ _ _ rfl (v := .int .u8 (y.toNat : Int)) rfl (by rw [hy2]; rfl) rfl rfl (by kernel_rfl) HO.out i rfl (by rw [bvs_length]; have := HO.out.len; omega) ?_; intro w5 hg5 ho5)
        rw [bvs_set] at ho5
        refine ⟨⟨i + 1, _, hlt, by go_num, Lib.hid ho5, Lib.hid (HS.out.fresh1 hg5 (Nat.le_trans HW.out HG1.out)), Lib.hid (HDr.out.st (St.one hg5 (fun x => x = 9) col3 (HC3.out g rfl)) (by decide) (fun e => hc9 e.symm))⟩, by simp [intOf]; omega⟩
  · have HE : Hid (E = barrierE D) := Lib.hid (hE.out.trans (by simp [doE]))
    obtain rfl : B = [] := hB.out.trans (by simp [doB])
    have HT : Hid (T = barrierD D) := Lib.hid (hT.out.trans (by simp [doD]))
    clear hE hB hT
    go_enter Try.func21, Try.ntmps21
    go_wp2_with fail
    refine (barrier_p c col b D k _ HD.out hF hkk E HE T HT).mono ?_
    rintro e w2 ⟨rfl, hm⟩
    go_wp2_with fail
    go_ret2
    exact ⟨_, rfl, DidP.made HBB.out hm⟩
  · have HE : Hid (E = armE D s) := Lib.hid (hE.out.trans (by simp [doE]))
    obtain rfl : B = [] := hB.out.trans (by simp [doB])
    have HT : Hid (T = armD D s) := Lib.hid (hT.out.trans (by simp [doD]))
    clear hE hB hT
    go_enter Try.func21, Try.ntmps21
    go_wp2_with fail
    refine (arm_p c col b D s _ HD.out E HE T HT).mono ?_
    rintro e w2 ⟨rfl, hm⟩
    go_wp2_with fail
    go_ret2
    exact ⟨_, rfl, DidP.made HBB.out hm⟩
  · obtain rfl : E = 0 := hE.out.trans (by simp [doE])
    obtain rfl : B = [] := hB.out.trans (by simp [doB])
    have HT : Hid (T = offD D) := Lib.hid (hT.out.trans (by simp [doD]))
    clear hE hB hT
    go_enter Try.func21, Try.ntmps21
    go_wp2_with fail
    refine (off_p c col b D _ HD.out T HT).mono ?_
    rintro e w2 ⟨⟨v2, rfl⟩, hm⟩
    go_wp2_with fail
    go_ret2
    exact ⟨_, rfl, DidP.made HBB.out hm⟩
  · have HE : Hid (E = onE D) := Lib.hid (hE.out.trans (by simp [doE]))
    obtain rfl : B = [] := hB.out.trans (by simp [doB])
    have HT : Hid (T = onD D keep s) := Lib.hid (hT.out.trans (by simp [doD]))
    clear hE hB hT
    go_enter Try.func21, Try.ntmps21
    go_wp2_with fail
    refine (on_p c col b D k _ HD.out hF hkk s aK nK cK keep HK.out HKA.out E HE T HT).mono ?_
    rintro e w2 ⟨rfl, hm⟩
    go_wp2_with fail
    go_ret2
    exact ⟨_, rfl, DidP.made HBB.out hm⟩
  · obtain rfl : E = 0 := hE.out.trans (by simp [doE, n0, n1, n2, n3, n4, n5])
    obtain rfl : B = [] := hB.out.trans (by simp [doB, n0])
    obtain rfl : T = D := hT.out.trans (by simp [doD, n0, n1, n2, n3, n4, n5])
    clear hE hB hT n0 n1 n2 n3 n4 n5
    go_enter Try.func21, Try.ntmps21
    go_wp2_with fail
    go_ret2
    exact ⟨_, rfl, DidP.made HBB.out (Made.refl HD.out)⟩
set_option maxHeartbeats 2000000 in
set_option maxRecDepth 10000 in
theorem meant_p (c : Nat) (col : Nat → Nat) (b : Nat) (D : Dk) (k : Nat) (w : World) (K s : Int) (aB : Option Addr) (nB cB : Nat) (l : List UInt8) (aK : Option Addr) (nK cK : Nat) (keep : List Int) (h : DkAt 59 c col w b D) (hF : D.Fits k) (hkk : k < 1073741823) (hc9 : ¬ 9 = c)
    (hl : Sl w 1 (.slice aB nB cB) nB (bvs l)) (hn : nB ≤ 1048576) (hk : Sl w 1 (.slice aK nK cK) nK (ints keep)) (hka : keep ≠ [] → ∀ g, (Value.slice aK nK cK).ownBlock = some g → ¬ col g = c)
    (E : Int) (hE : Hid (E = doE D K s l)) (B : List UInt8) (hB : Hid (B = doB D K s)) (T : Dk) (hT : Hid (T = doD D K s l keep)) :
    Calls Try.prog 29 #[.pointer (some ⟨b, 0, none⟩), .agg #[.int .i64 K, .int .i64 s, .slice aB nB cB, .slice aK nK cK]] w fun e w' => ∃ v, e = .returned (.tuple #[v, .int .i64 E]) ∧ DidP 59 c col w b T v B w' := by
  have hb1 : Below w.heap.size w (w.alloc (.cells #[.int .i64 K, .int .i64 s, .slice aB nB cB, .slice aK nK cK] 42)) := (Below.refl _ _).alloc (Nat.le_refl _) _
  have h1 := h.st (St.fresh hb1 (fun _ => False) col) (fun h => h) (fun h => h)
  have hl1 := hl.below hb1
  have hk1 := hk.below hb1
  have HBB := Lib.hid hb1
  have HD := Lib.hid h1
  have HL := Lib.hid hl1
  have HK := Lib.hid hk1
  have HKA := Lib.hid hka
  clear hb1 h1 hl1 hk1 hka h hl hk
  rcases kinds K with rfl | rfl | rfl | rfl | rfl | rfl | ⟨k0, k1, k2, k3, k4, k5, n0, n1, n2, n3, n4, n5⟩
  · have HE : Hid (E = readE D s) := Lib.hid (hE.out.trans (by simp [doE]))
    have HB : Hid (B = readB D s) := Lib.hid (hB.out.trans (by simp [doB]))
    obtain rfl : T = D := hT.out.trans (by simp [doD])
    have hp := hF.pen
    have hBl : B.length ≤ 256 := by rw [HB.out]; exact readB_le hF.fit s
    clear hE hB hT
    go_enter Try.func29, Try.ntmps29
    go_wp2_with fail
    refine (rread_p c col b T s _ B HD.out (by omega) hBl E HE HB).mono ?_
    rintro e w2 ⟨v, rfl, ho, hb2⟩
    go_wp2_with fail
    go_ret2
    exact ⟨v, rfl, DidP.read HBB.out HD.out ho hb2⟩
  · have HE : Hid (E = writeE D s l) := Lib.hid (hE.out.trans (by simp [doE]))
    obtain rfl : B = [] := hB.out.trans (by simp [doB])
    have HT : Hid (T = writeD D s l) := Lib.hid (hT.out.trans (by simp [doD]))
    clear hE hB hT
    have hr0 := Row.new w [.int .i64 1, .int .i64 s, .slice aB nB cB, .slice aK nK cK] 42
    have HR0 := Lib.hid hr0
    clear hr0
    go_enter Try.func29, Try.ntmps29
    go_wp2_with fail
    generalize (w.alloc (.cells #[.int .i64 1, .int .i64 s, .slice aB nB cB, .slice aK nK cK] 42)) = w1 at HBB HD HL HK HR0 ⊢
    refine (rwrite_p c col b D s k aB nB cB l w1 HD.out hF hkk HL.out E HE T HT).mono ?_
    rintro e w3 ⟨rfl, hm⟩
    go_wp2_with fail
    go_ret2
    exact ⟨_, rfl, DidP.made HBB.out hm⟩
  · have HE : Hid (E = barrierE D) := Lib.hid (hE.out.trans (by simp [doE]))
    obtain rfl : B = [] := hB.out.trans (by simp [doB])
    have HT : Hid (T = barrierD D) := Lib.hid (hT.out.trans (by simp [doD]))
    clear hE hB hT
    go_enter Try.func29, Try.ntmps29
    go_wp2_with fail
    refine (rbarrier_p c col b D k _ HD.out hF hkk E HE T HT).mono ?_
    rintro e w2 ⟨rfl, hm⟩
    go_wp2_with fail
    go_ret2
    exact ⟨_, rfl, DidP.made HBB.out hm⟩
  · have HE : Hid (E = armE D s) := Lib.hid (hE.out.trans (by simp [doE]))
    obtain rfl : B = [] := hB.out.trans (by simp [doB])
    have HT : Hid (T = armD D s) := Lib.hid (hT.out.trans (by simp [doD]))
    clear hE hB hT
    go_enter Try.func29, Try.ntmps29
    go_wp2_with fail
    refine (rarm_p c col b D s _ HD.out E HE T HT).mono ?_
    rintro e w2 ⟨rfl, hm⟩
    go_wp2_with fail
    go_ret2
    exact ⟨_, rfl, DidP.made HBB.out hm⟩
  · obtain rfl : E = 0 := hE.out.trans (by simp [doE])
    obtain rfl : B = [] := hB.out.trans (by simp [doB])
    have HT : Hid (T = offD D) := Lib.hid (hT.out.trans (by simp [doD]))
    clear hE hB hT
    go_enter Try.func29, Try.ntmps29
    go_wp2_with fail
    refine (roff_p c col b D _ HD.out T HT).mono ?_
    rintro e w2 ⟨⟨v2, rfl⟩, hm⟩
    go_wp2_with fail
    go_ret2
    exact ⟨_, rfl, DidP.made HBB.out hm⟩
  · have HE : Hid (E = onE D) := Lib.hid (hE.out.trans (by simp [doE]))
    obtain rfl : B = [] := hB.out.trans (by simp [doB])
    have HT : Hid (T = onD D keep s) := Lib.hid (hT.out.trans (by simp [doD]))
    clear hE hB hT
    go_enter Try.func29, Try.ntmps29
    go_wp2_with fail
    refine (ron_p c col b D k _ HD.out hF hkk s aK nK cK keep HK.out HKA.out E HE T HT).mono ?_
    rintro e w2 ⟨rfl, hm⟩
    go_wp2_with fail
    go_ret2
    exact ⟨_, rfl, DidP.made HBB.out hm⟩
  · obtain rfl : E = 0 := hE.out.trans (by simp [doE, n0, n1, n2, n3, n4, n5])
    obtain rfl : B = [] := hB.out.trans (by simp [doB, n0])
    obtain rfl : T = D := hT.out.trans (by simp [doD, n0, n1, n2, n3, n4, n5])
    clear hE hB hT n0 n1 n2 n3 n4 n5
    go_enter Try.func29, Try.ntmps29
    go_wp2_with fail
    go_ret2
    exact ⟨_, rfl, DidP.made HBB.out (Made.refl HD.out)⟩
end Go.Proofs.Ytcocodpeigbdaaa
