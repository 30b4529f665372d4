/-
  A cache over a disk whose power stays: the plain model, and what its steps leave. No condition: plain laws.
-/
import Derived.Test.YtchjfmgfoifbcaaDskV
import Derived.Test.YtchjfmgfoifbcaaMaps
namespace Go.Proofs.Ytchjfmgfoifbcaa
open Go.RowKit
set_option linter.unusedVariables false
set_option linter.unusedSimpArgs false
set_option maxRecDepth 100000

structure Fr where
  b : List UInt8
  used : Int
  dirty : Bool
  pins : Int
structure Ch where
  D : Dk
  most : Int
  clock : Int
  ks : List Int
  F : Int → Fr
/-- a frame's bytes are laid on the disk, if they are dirty -/
def wrC (C : Ch) (k : Int) : Ch := { C with D := if (C.F k).dirty = true then writeD C.D k (C.F k).b else C.D }
def outC (C : Ch) (k : Int) : Ch := { wrC C k with ks := C.ks.erase k }
def useC (C : Ch) (s : Int) : Ch := { C with clock := C.clock + 1, F := upd C.F s { C.F s with used := C.clock + 1 } }
def addC (C : Ch) (s : Int) (b : List UInt8) : Ch := { C with ks := putK C.ks s, F := upd C.F s ⟨b, 0, false, 0⟩ }
def setC (C : Ch) (s : Int) (b : List UInt8) : Ch := { C with F := upd C.F s { C.F s with b := b, dirty := true } }
def pinC (C : Ch) (s : Int) (p : Int) : Ch := { C with F := upd C.F s { C.F s with pins := p } }
def cleanC (C : Ch) (s : Int) : Ch := { C with F := upd C.F s { C.F s with dirty := false } }
def dropC (C : Ch) (s : Int) : Ch := { C with ks := C.ks.erase s }
def RoomR (C : Ch) (E : Int) (C' : Ch) : Prop :=
  ((C.ks.length : Int) < C.most ∧ E = 0 ∧ C' = C) ∨ (¬ (C.ks.length : Int) < C.most ∧ (∀ k ∈ C.ks, (C.F k).pins ≠ 0) ∧ E = 3 ∧ C' = C) ∨ (¬ (C.ks.length : Int) < C.most ∧ ∃ k ∈ C.ks, (C.F k).pins = 0 ∧ E = 0 ∧ C' = outC C k)
def mayE (n : Nat) (s : Int) : Int := if 0 ≤ s ∧ s < n then 0 else 1
def BringR (n : Nat) (C : Ch) (s : Int) (E : Int) (C' : Ch) : Prop :=
  (mayE n s = 1 ∧ E = 1 ∧ C' = C) ∨ (mayE n s = 0 ∧ s ∈ C.ks ∧ E = 0 ∧ C' = useC C s) ∨
  (mayE n s = 0 ∧ s ∉ C.ks ∧ ∃ e C1, RoomR C e C1 ∧ ((e = 3 ∧ E = 3 ∧ C' = C1) ∨ (e = 0 ∧ E = 0 ∧ C' = useC (addC C1 s (pickD C1.D s.toNat)) s)))
def WriteR (n : Nat) (C : Ch) (s : Int) (l : List UInt8) (E : Int) (C' : Ch) : Prop :=
  (mayE n s = 1 ∧ E = 1 ∧ C' = C) ∨ (mayE n s = 0 ∧ 256 < l.length ∧ E = 1 ∧ C' = C) ∨ (mayE n s = 0 ∧ l.length ≤ 256 ∧ s ∈ C.ks ∧ E = 0 ∧ C' = setC (useC C s) s (fullB l)) ∨
  (mayE n s = 0 ∧ l.length ≤ 256 ∧ s ∉ C.ks ∧ ∃ e C1, RoomR C e C1 ∧ ((e = 3 ∧ E = 3 ∧ C' = C1) ∨ (e = 0 ∧ E = 0 ∧ C' = setC (useC (addC C1 s []) s) s (fullB l))))
def PinR (n : Nat) (C : Ch) (s : Int) (E : Int) (C' : Ch) : Prop :=
  ∃ C1, BringR n C s E C1 ∧ ((E = 0 ∧ C' = pinC C1 s ((C1.F s).pins + 1)) ∨ (E ≠ 0 ∧ C' = C1))
def UnpinR (C : Ch) (s : Int) (E : Int) (C' : Ch) : Prop :=
  (s ∉ C.ks ∧ E = 7 ∧ C' = C) ∨ (s ∈ C.ks ∧ (C.F s).pins = 0 ∧ E = 7 ∧ C' = C) ∨ (s ∈ C.ks ∧ (C.F s).pins ≠ 0 ∧ E = 0 ∧ C' = pinC C s ((C.F s).pins - 1))
def EvictR (C : Ch) (k : Int) (is : Bool) (C' : Ch) : Prop :=
  ((C.ks = [] ∨ k < 0) ∧ is = false ∧ C' = C) ∨ (0 ≤ k ∧ ∃ x ∈ C.ks, ((C.F x).pins ≠ 0 ∧ is = false ∧ C' = C) ∨ ((C.F x).pins = 0 ∧ is = true ∧ C' = outC C x))
def DropR (C : Ch) (s : Int) (E : Int) (C' : Ch) : Prop :=
  (s ∉ C.ks ∧ E = 7 ∧ C' = C) ∨ (s ∈ C.ks ∧ (C.F s).pins ≠ 0 ∧ E = 3 ∧ C' = C) ∨ (s ∈ C.ks ∧ (C.F s).pins = 0 ∧ E = 0 ∧ C' = dropC C s)
def flushL (C : Ch) : List Int → Ch
  | [] => C
  | k :: l => flushL (cleanC (wrC C k) k) l
def flushC (C : Ch) (l : List Int) : Ch := { flushL C l with D := barrierD (flushL C l).D }
def FlushR (C : Ch) (C' : Ch) : Prop := ∃ l, l.Perm C.ks ∧ C' = flushC C l

structure LiveC (C : Ch) (n N : Nat) : Prop where
  D : LiveD C.D n N
  keys : ∀ k ∈ C.ks, 0 ≤ k ∧ k < n
  nd : C.ks.Nodup
  frb : ∀ k ∈ C.ks, (C.F k).b.length = 256
  pin : ∀ k ∈ C.ks, 0 ≤ (C.F k).pins ∧ (C.F k).pins ≤ N
  clk : 0 ≤ C.clock ∧ C.clock ≤ N
  few : (C.ks.length : Int) ≤ C.most
  mst : 1 ≤ C.most ∧ C.most ≤ 1024
variable {C C' : Ch} {n N : Nat}
theorem LiveC.le {N' : Nat} (h : LiveC C n N) (hN : N ≤ N') : LiveC C n N' := ⟨h.D.le hN, h.keys, h.nd, h.frb, fun k hk => ⟨(h.pin k hk).1, by have := (h.pin k hk).2; omega⟩, ⟨h.clk.1, by have := h.clk.2; omega⟩, h.few, h.mst⟩
theorem LiveC.nat (h : LiveC C n N) {k : Int} (hk : k ∈ C.ks) : ∃ q : Nat, k = q ∧ q < n := ⟨k.toNat, by have := h.keys k hk; omega, by have := h.keys k hk; omega⟩
/-- what a Read tells of a sector -/
def curC (C : Ch) (s : Nat) : List UInt8 := if (s : Int) ∈ C.ks then (C.F s).b else pickD C.D s
/-- what is not dirty is what the disk has -/
def TrueC (C : Ch) : Prop := ∀ s : Nat, (s : Int) ∈ C.ks → (C.F s).dirty = false → (C.F s).b = pickD C.D s
theorem LiveC.write (h : LiveC C n N) {k : Int} (hk : k ∈ C.ks) : (C.F k).dirty = true → 0 = writeE C.D k (C.F k).b := fun _ => by
  obtain ⟨q, rfl, hq⟩ := h.nat hk
  exact (h.D.write hq (by rw [h.frb _ hk]; exact Nat.le_refl _)).1
theorem full256 {l : List UInt8} (h : l.length = 256) : fullB l = l := by simp [fullB, h]
theorem LiveC.wr (h : LiveC C n N) {k : Int} (hk : k ∈ C.ks) : LiveC (wrC C k) n (N + 2) ∧ (TrueC C → ∀ s, s < n → pickD (wrC C k).D s = if k = s then (C.F k).b else pickD C.D s) := by
  have h0 := h.le (show N ≤ N + 2 by omega)
  cases hd : (C.F k).dirty with
  | false =>
    have e : wrC C k = C := by unfold wrC; rw [hd]; rfl
    rw [e]
    refine ⟨h0, fun ht s hs => ?_⟩
    split
    · rename_i hks
      subst hks
      exact (ht s hk hd).symm
    · rfl
  | true =>
    obtain ⟨q, rfl, hq⟩ := h.nat hk
    have hb := h.frb _ hk
    obtain ⟨_, h1, h2⟩ := h.D.write hq (l := (C.F q).b) (by rw [hb]; exact Nat.le_refl _)
    have e : wrC C q = { C with D := writeD C.D q (C.F q).b } := by unfold wrC; rw [hd]; rfl
    rw [e]
    refine ⟨⟨h1, h0.keys, h0.nd, h0.frb, h0.pin, h0.clk, h0.few, h0.mst⟩, fun _ s hs => ?_⟩
    show pickD (writeD C.D q (C.F q).b) s = _
    rw [h2 s hs, full256 hb]
    by_cases hqs : q = s
    · rw [if_pos hqs, if_pos (by omega)]
    · rw [if_neg hqs, if_neg (by omega)]
theorem LiveC.out (h : LiveC C n N) {k : Int} (hk : k ∈ C.ks) : LiveC (outC C k) n (N + 2) ∧ (TrueC C → TrueC (outC C k) ∧ ∀ s, s < n → curC (outC C k) s = curC C s) := by
  obtain ⟨h1, h2⟩ := h.wr hk
  have hm : ∀ x, x ∈ C.ks.erase k ↔ x ≠ k ∧ x ∈ C.ks := fun x => List.Nodup.mem_erase_iff h.nd
  refine ⟨⟨h1.D, fun x hx => h.keys x ((hm x).1 hx).2, h.nd.erase k, fun x hx => h1.frb x ((hm x).1 hx).2, fun x hx => h1.pin x ((hm x).1 hx).2, h1.clk, ?_, h1.mst⟩, fun ht => ⟨fun s hs hd => ?_, fun s hs => ?_⟩⟩
  · show ((C.ks.erase k).length : Int) ≤ C.most
    rw [List.length_erase_of_mem hk]
    have := h.few
    omega
  · obtain ⟨g1, g2⟩ := (hm s).1 hs
    have hsn := h.keys s g2
    show (C.F s).b = pickD (wrC C k).D s
    rw [h2 ht s (by omega), if_neg (fun e => g1 e.symm)]
    exact ht s g2 hd
  · show (if (s : Int) ∈ C.ks.erase k then ((wrC C k).F s).b else pickD (wrC C k).D s) = (if (s : Int) ∈ C.ks then (C.F s).b else pickD C.D s)
    by_cases hsk : (s : Int) = k
    · subst hsk
      rw [if_neg (fun e => ((hm _).1 e).1 rfl), if_pos hk]
      rw [h2 ht s hs, if_pos rfl]
    · by_cases hmem : (s : Int) ∈ C.ks
      · rw [if_pos ((hm _).2 ⟨hsk, hmem⟩), if_pos hmem]; rfl
      · rw [if_neg (fun e => hmem ((hm _).1 e).2), if_neg hmem]
        rw [h2 ht s hs, if_neg (fun e => hsk e.symm)]
theorem LiveC.room {E : Int} (h : LiveC C n N) (hr : RoomR C E C') : LiveC C' n (N + 2) ∧ (∀ k ∈ C'.ks, k ∈ C.ks) ∧ C'.F = C.F ∧ C'.most = C.most ∧ C'.clock = C.clock ∧ (E = 0 → (C'.ks.length : Int) < C'.most) ∧ (E = 0 ∨ (E = 3 ∧ C' = C ∧ ∀ k ∈ C.ks, (C.F k).pins ≠ 0)) ∧ (TrueC C → TrueC C' ∧ ∀ s, s < n → curC C' s = curC C s) := by
  rcases hr with ⟨h1, rfl, rfl⟩ | ⟨h1, h2, rfl, rfl⟩ | ⟨h1, k, hk, hp, rfl, rfl⟩
  · exact ⟨h.le (by omega), fun _ h => h, rfl, rfl, rfl, fun _ => h1, .inl rfl, fun ht => ⟨ht, fun _ _ => rfl⟩⟩
  · exact ⟨h.le (by omega), fun _ h => h, rfl, rfl, rfl, (fun e => by cases e), .inr ⟨rfl, rfl, h2⟩, fun ht => ⟨ht, fun _ _ => rfl⟩⟩
  · obtain ⟨g1, g2⟩ := h.out hk
    refine ⟨g1, fun x hx => List.mem_of_mem_erase hx, rfl, rfl, rfl, fun _ => ?_, .inl rfl, g2⟩
    show ((C.ks.erase k).length : Int) < C.most
    rw [List.length_erase_of_mem hk]
    have := h.few
    have : 0 < C.ks.length := List.length_pos_of_mem hk
    omega
theorem useC_eq (C : Ch) (s k : Int) : ((useC C s).F k).b = (C.F k).b ∧ ((useC C s).F k).dirty = (C.F k).dirty ∧ ((useC C s).F k).pins = (C.F k).pins := by
  unfold useC upd
  by_cases h : k = s <;> simp [h]
theorem LiveC.use (h : LiveC C n N) (s : Int) : LiveC (useC C s) n (N + 1) ∧ (TrueC C → TrueC (useC C s)) ∧ ∀ k, curC (useC C s) k = curC C k := by
  refine ⟨⟨h.D.le (by omega), h.keys, h.nd, fun k hk => by rw [(useC_eq C s k).1]; exact h.frb k hk, fun k hk => by rw [(useC_eq C s k).2.2]; have := h.pin k hk; omega, ⟨by have := h.clk.1; simp only [useC]; omega, by have := h.clk.2; simp only [useC]; omega⟩, h.few, h.mst⟩, fun ht k hk hd => ?_, fun k => ?_⟩
  · rw [(useC_eq C s k).2.1] at hd
    rw [(useC_eq C s k).1]
    exact ht k hk hd
  · unfold curC
    rw [(useC_eq C s k).1]
    rfl
theorem mayE_yes {n : Nat} {s : Int} (h : mayE n s = 0) : ∃ q : Nat, s = q ∧ q < n := by
  unfold mayE at h
  split at h
  · exact ⟨s.toNat, by omega, by omega⟩
  · cases h
theorem mayE_one {n : Nat} {s : Int} : mayE n s = 0 ∨ mayE n s = 1 := by
  unfold mayE; split
  · exact .inl rfl
  · exact .inr rfl
/-- a frame more, with some bytes -/
theorem LiveC.add (h : LiveC C n N) {q : Nat} (hq : q < n) (hk : (q : Int) ∉ C.ks) (hr : (C.ks.length : Int) < C.most) {b : List UInt8} (hb : b.length = 256) : LiveC (addC C q b) n N := by
  have e : putK C.ks q = C.ks ++ [(q : Int)] := if_neg hk
  refine ⟨h.D, fun x hx => ?_, putK_nodup h.nd _, fun x hx => ?_, fun x hx => ?_, h.clk, ?_, h.mst⟩
  · rcases mem_putK.1 hx with h1 | h1
    · exact h.keys x h1
    · omega
  · show (upd C.F q ⟨b, 0, false, 0⟩ x).b.length = 256
    by_cases hx2 : x = q
    · rw [hx2, upd_same]; exact hb
    · rw [upd_other hx2]; exact h.frb x ((mem_putK.1 hx).resolve_right hx2)
  · show 0 ≤ (upd C.F q ⟨b, 0, false, 0⟩ x).pins ∧ (upd C.F q ⟨b, 0, false, 0⟩ x).pins ≤ N
    by_cases hx2 : x = q
    · rw [hx2, upd_same]; exact ⟨Int.le_refl _, Int.natCast_nonneg N⟩
    · rw [upd_other hx2]; exact h.pin x ((mem_putK.1 hx).resolve_right hx2)
  · show ((putK C.ks q).length : Int) ≤ C.most
    rw [e]; simp; omega
theorem cur_add (C : Ch) (q : Nat) (b : List UInt8) (s : Nat) : curC (addC C q b) s = if s = q then b else curC C s := by
  unfold curC addC
  simp only [mem_putK]
  by_cases h : s = q
  · subst h
    rw [if_pos (.inr rfl), if_pos rfl, upd_same]
  · have h' : ¬ (s : Int) = q := by omega
    rw [if_neg h, upd_other h']
    by_cases hm : (s : Int) ∈ C.ks
    · rw [if_pos (.inl hm), if_pos hm]
    · rw [if_neg (fun e => hm (e.resolve_right h')), if_neg hm]
theorem true_add {q : Nat} (ht : TrueC C) : TrueC (addC C q (pickD C.D q)) := fun s hs hd => by
  have e : (addC C q (pickD C.D q)).F s = upd C.F q ⟨pickD C.D q, 0, false, 0⟩ s := rfl
  rw [e] at hd ⊢
  by_cases h : (s : Int) = q
  · have : s = q := by omega
    subst this
    rw [upd_same]
    rfl
  · rw [upd_other h] at hd ⊢
    exact ht s ((mem_putK.1 hs).resolve_right h) hd
theorem LiveC.set (h : LiveC C n N) {q : Nat} {b : List UInt8} (hb : b.length = 256) : LiveC (setC C q b) n N := by
  refine ⟨h.D, h.keys, h.nd, fun x hx => ?_, fun x hx => ?_, h.clk, h.few, h.mst⟩
  · show (upd C.F q { C.F q with b := b, dirty := true } x).b.length = 256
    by_cases hx2 : x = q
    · rw [hx2, upd_same]; exact hb
    · rw [upd_other hx2]; exact h.frb x hx
  · show 0 ≤ (upd C.F q { C.F q with b := b, dirty := true } x).pins ∧ (upd C.F q { C.F q with b := b, dirty := true } x).pins ≤ N
    by_cases hx2 : x = q
    · subst hx2; rw [upd_same]; exact h.pin _ hx
    · rw [upd_other hx2]; exact h.pin x hx
theorem cur_set {q : Nat} (hq : (q : Int) ∈ C.ks) (b : List UInt8) (s : Nat) : curC (setC C q b) s = if s = q then b else curC C s := by
  unfold curC setC
  simp only
  by_cases h : s = q
  · subst h
    rw [if_pos hq, if_pos rfl, upd_same]
  · have h' : ¬ (s : Int) = q := by omega
    rw [if_neg h, upd_other h']
theorem true_set {q : Nat} {b : List UInt8} (ht : TrueC C) : TrueC (setC C q b) := fun s hs hd => by
  have e : (setC C q b).F s = upd C.F q { C.F q with b := b, dirty := true } s := rfl
  rw [e] at hd ⊢
  by_cases h : (s : Int) = q
  · rw [h, upd_same] at hd
    cases hd
  · rw [upd_other h] at hd ⊢
    exact ht s hs hd
theorem pinC_eq (C : Ch) (s p k : Int) : ((pinC C s p).F k).b = (C.F k).b ∧ ((pinC C s p).F k).dirty = (C.F k).dirty ∧ ((pinC C s p).F k).pins = if k = s then p else (C.F k).pins := by
  unfold pinC upd
  by_cases h : k = s <;> simp [h]
theorem LiveC.pinc (h : LiveC C n N) {s p : Int} (hp : 0 ≤ p ∧ p ≤ N) : LiveC (pinC C s p) n N ∧ (TrueC C → TrueC (pinC C s p)) ∧ ∀ k, curC (pinC C s p) k = curC C k := by
  refine ⟨⟨h.D, h.keys, h.nd, fun k hk => by rw [(pinC_eq C s p k).1]; exact h.frb k hk, fun k hk => by rw [(pinC_eq C s p k).2.2]; split; exact hp; exact h.pin k hk, h.clk, h.few, h.mst⟩, fun ht k hk hd => ?_, fun k => ?_⟩
  · rw [(pinC_eq C s p k).2.1] at hd
    rw [(pinC_eq C s p k).1]
    exact ht k hk hd
  · unfold curC
    rw [(pinC_eq C s p k).1]
    rfl
/-! ### the steps -/
theorem BringR.live {s E : Int} (h : LiveC C n N) (hr : BringR n C s E C') : LiveC C' n (N + 3) ∧ (E = 0 ∨ E = 1 ∨ E = 3) ∧ (E = 0 → mayE n s = 0 ∧ s ∈ C'.ks) ∧ (TrueC C → TrueC C' ∧ ∀ k, k < n → curC C' k = curC C k) ∧ (E = 3 → ∀ k ∈ C.ks, (C.F k).pins ≠ 0) ∧ (mayE n s = 0 → E ≠ 1) := by
  rcases hr with ⟨h1, rfl, rfl⟩ | ⟨h1, h2, rfl, rfl⟩ | ⟨h1, h2, e, C1, hroom, ⟨rfl, rfl, rfl⟩ | ⟨rfl, rfl, rfl⟩⟩
  · exact ⟨h.le (by omega), .inr (.inl rfl), (fun e => by cases e), fun ht => ⟨ht, fun _ _ => rfl⟩, (fun e => by cases e), (fun e => by rw [h1] at e; cases e)⟩
  · obtain ⟨g1, g2, g3⟩ := h.use s
    exact ⟨g1.le (by omega), .inl rfl, fun _ => ⟨h1, h2⟩, fun ht => ⟨g2 ht, fun k _ => g3 k⟩, (fun e => by cases e), (fun _ e => by cases e)⟩
  · obtain ⟨g1, _, _, _, _, _, g7, g8⟩ := h.room hroom
    refine ⟨g1.le (by omega), .inr (.inr rfl), (fun e => by cases e), g8, fun _ => ?_, (fun _ e => by cases e)⟩
    rcases g7 with e | ⟨_, _, g⟩
    · cases e
    · exact g
  · obtain ⟨g1, g2, g3, g4, g5, g6, g7, g8⟩ := h.room hroom
    obtain ⟨q, rfl, hq⟩ := mayE_yes h1
    rw [Int.toNat_natCast]
    have hadd := g1.add hq (fun e => h2 (g2 _ e)) (g6 rfl) (g1.D.pick hq)
    obtain ⟨k1, k2, k3⟩ := hadd.use q
    refine ⟨k1.le (by omega), .inl rfl, fun _ => ⟨h1, mem_putK.2 (.inr rfl)⟩, fun ht => ?_, (fun e => by cases e), (fun _ e => by cases e)⟩
    obtain ⟨t1, t2⟩ := g8 ht
    refine ⟨k2 (true_add t1), fun k hk => ?_⟩
    rw [k3, cur_add, ← t2 k hk]
    split
    · rename_i hkq
      subst hkq
      unfold curC
      rw [if_neg (fun e => h2 (g2 _ e))]
    · rfl
theorem WriteR.live {s E : Int} {l : List UInt8} (h : LiveC C n N) (hr : WriteR n C s l E C') : LiveC C' n (N + 3) ∧ (E = 0 ∨ E = 1 ∨ E = 3) ∧ (E = 0 → mayE n s = 0 ∧ l.length ≤ 256) ∧ (mayE n s = 0 → l.length ≤ 256 → E ≠ 1) ∧ (E = 3 → ∀ k ∈ C.ks, (C.F k).pins ≠ 0) ∧
    (TrueC C → TrueC C' ∧ ∀ k, k < n → curC C' k = if E = 0 ∧ (k : Int) = s then fullB l else curC C k) := by
  rcases hr with ⟨h1, rfl, rfl⟩ | ⟨h1, h2, rfl, rfl⟩ | ⟨h1, hl, h2, rfl, rfl⟩ | ⟨h1, hl, h2, e, C1, hroom, ⟨rfl, rfl, rfl⟩ | ⟨rfl, rfl, rfl⟩⟩
  · exact ⟨h.le (by omega), .inr (.inl rfl), (fun e => by cases e), (fun e => by rw [h1] at e; cases e), (fun e => by cases e), fun ht => ⟨ht, fun _ _ => by rw [if_neg (fun e => by cases e.1)]⟩⟩
  · exact ⟨h.le (by omega), .inr (.inl rfl), (fun e => by cases e), fun _ e => by omega, (fun e => by cases e), fun ht => ⟨ht, fun _ _ => by rw [if_neg (fun e => by cases e.1)]⟩⟩
  · obtain ⟨q, rfl, hq⟩ := mayE_yes h1
    obtain ⟨g1, g2, g3⟩ := h.use q
    refine ⟨(g1.set (fullB_len hl)).le (by omega), .inl rfl, fun _ => ⟨h1, hl⟩, (fun _ _ e => by cases e), (fun e => by cases e), fun ht => ⟨true_set (g2 ht), fun k hk => ?_⟩⟩
    rw [cur_set (show (q : Int) ∈ (useC C q).ks from h2), g3]
    by_cases hkq : k = q
    · rw [if_pos hkq, if_pos ⟨rfl, by omega⟩]
    · rw [if_neg hkq, if_neg (fun e => hkq (by have := e.2; omega))]
  · obtain ⟨g1, _, _, _, _, _, g7, g8⟩ := h.room hroom
    refine ⟨g1.le (by omega), .inr (.inr rfl), (fun e => by cases e), (fun _ _ e => by cases e), fun _ => ?_, fun ht => ⟨(g8 ht).1, fun k hk => by rw [if_neg (fun e => by cases e.1)]; exact (g8 ht).2 k hk⟩⟩
    rcases g7 with e | ⟨_, _, g⟩
    · cases e
    · exact g
  · obtain ⟨g1, g2, g3, g4, g5, g6, g7, g8⟩ := h.room hroom
    obtain ⟨q, rfl, hq⟩ := mayE_yes h1
    have e1 : setC (useC (addC C1 q []) q) q (fullB l) = setC (useC (addC C1 q (pickD C1.D q)) q) q (fullB l) := by
      have e2 : upd (upd (upd C1.F q ⟨[], 0, false, 0⟩) q { (upd C1.F q ⟨[], 0, false, 0⟩ q) with used := C1.clock + 1 }) q { (upd (upd C1.F q ⟨[], 0, false, 0⟩) q { (upd C1.F q ⟨[], 0, false, 0⟩ q) with used := C1.clock + 1 } q) with b := fullB l, dirty := true } =
          upd (upd (upd C1.F q ⟨pickD C1.D q, 0, false, 0⟩) q { (upd C1.F q ⟨pickD C1.D q, 0, false, 0⟩ q) with used := C1.clock + 1 }) q { (upd (upd C1.F q ⟨pickD C1.D q, 0, false, 0⟩) q { (upd C1.F q ⟨pickD C1.D q, 0, false, 0⟩ q) with used := C1.clock + 1 } q) with b := fullB l, dirty := true } := by
        funext x
        simp only [upd]
        split <;> simp_all
      show Ch.mk _ _ _ _ _ = Ch.mk _ _ _ _ _
      simp only [Ch.mk.injEq]
      exact ⟨rfl, rfl, rfl, rfl, e2⟩
    rw [e1]
    have hadd := g1.add hq (fun e => h2 (g2 _ e)) (g6 rfl) (g1.D.pick hq)
    obtain ⟨k1, k2, k3⟩ := hadd.use q
    refine ⟨(k1.set (fullB_len hl)).le (by omega), .inl rfl, fun _ => ⟨h1, hl⟩, (fun _ _ e => by cases e), (fun e => by cases e), fun ht => ?_⟩
    obtain ⟨t1, t2⟩ := g8 ht
    refine ⟨true_set (k2 (true_add t1)), fun k hk => ?_⟩
    rw [cur_set (show (q : Int) ∈ (useC (addC C1 q (pickD C1.D q)) q).ks from mem_putK.2 (.inr rfl)), k3, cur_add, ← t2 k hk]
    by_cases hkq : k = q
    · rw [if_pos hkq, if_pos ⟨rfl, by omega⟩]
    · rw [if_neg hkq, if_neg hkq, if_neg (fun e => hkq (by have := e.2; omega))]
theorem PinR.live {s E : Int} (h : LiveC C n N) (hr : PinR n C s E C') : LiveC C' n (N + 4) ∧ (TrueC C → TrueC C' ∧ ∀ k, k < n → curC C' k = curC C k) := by
  obtain ⟨C1, hb, ⟨rfl, rfl⟩ | ⟨_, rfl⟩⟩ := hr
  · obtain ⟨g1, _, g3, g4, _⟩ := hb.live h
    have hm := (g3 rfl).2
    have hp := g1.pin s hm
    obtain ⟨k1, k2, k3⟩ := (g1.le (show N + 3 ≤ N + 4 by omega)).pinc (s := s) (p := (C1.F s).pins + 1) (by omega)
    exact ⟨k1, fun ht => ⟨k2 (g4 ht).1, fun k hk => by rw [k3]; exact (g4 ht).2 k hk⟩⟩
  · obtain ⟨g1, _, g3, g4, _⟩ := hb.live h
    exact ⟨g1.le (by omega), g4⟩
theorem UnpinR.live {s E : Int} (h : LiveC C n N) (hr : UnpinR C s E C') : LiveC C' n N ∧ (TrueC C → TrueC C' ∧ ∀ k, k < n → curC C' k = curC C k) := by
  rcases hr with ⟨_, _, rfl⟩ | ⟨_, _, _, rfl⟩ | ⟨h1, h2, _, rfl⟩
  · exact ⟨h, fun ht => ⟨ht, fun _ _ => rfl⟩⟩
  · exact ⟨h, fun ht => ⟨ht, fun _ _ => rfl⟩⟩
  · have hp := h.pin s h1
    obtain ⟨k1, k2, k3⟩ := h.pinc (s := s) (p := (C.F s).pins - 1) (by omega)
    exact ⟨k1, fun ht => ⟨k2 ht, fun k hk => k3 k⟩⟩
theorem EvictR.live {k : Int} {is : Bool} (h : LiveC C n N) (hr : EvictR C k is C') : LiveC C' n (N + 2) ∧ (TrueC C → TrueC C' ∧ ∀ s, s < n → curC C' s = curC C s) := by
  rcases hr with ⟨_, _, rfl⟩ | ⟨_, x, hx, ⟨_, _, rfl⟩ | ⟨_, _, rfl⟩⟩
  · exact ⟨h.le (by omega), fun ht => ⟨ht, fun _ _ => rfl⟩⟩
  · exact ⟨h.le (by omega), fun ht => ⟨ht, fun _ _ => rfl⟩⟩
  · exact h.out hx
theorem DropR.live {s E : Int} (h : LiveC C n N) (hr : DropR C s E C') : LiveC C' n N := by
  rcases hr with ⟨_, _, rfl⟩ | ⟨_, _, _, rfl⟩ | ⟨h1, h2, _, rfl⟩
  · exact h
  · exact h
  · have hm : ∀ x, x ∈ C.ks.erase s ↔ x ≠ s ∧ x ∈ C.ks := fun x => List.Nodup.mem_erase_iff h.nd
    refine ⟨h.D, fun x hx => h.keys x ((hm x).1 hx).2, h.nd.erase s, fun x hx => h.frb x ((hm x).1 hx).2, fun x hx => h.pin x ((hm x).1 hx).2, h.clk, ?_, h.mst⟩
    show ((C.ks.erase s).length : Int) ≤ C.most
    rw [List.length_erase_of_mem h1]
    have := h.few
    omega
theorem cleanC_eq (C : Ch) (s k : Int) : ((cleanC C s).F k).b = (C.F k).b ∧ ((cleanC C s).F k).dirty = (if k = s then false else (C.F k).dirty) ∧ ((cleanC C s).F k).pins = (C.F k).pins := by
  unfold cleanC upd
  by_cases h : k = s <;> simp [h]
/-- one frame laid on the disk, and clean -/
theorem LiveC.clean (h : LiveC C n N) {k : Int} (hk : k ∈ C.ks) : LiveC (cleanC (wrC C k) k) n (N + 2) ∧ (TrueC C → TrueC (cleanC (wrC C k) k) ∧ ∀ s, s < n → curC (cleanC (wrC C k) k) s = curC C s) := by
  obtain ⟨h1, h2⟩ := h.wr hk
  refine ⟨⟨h1.D, h1.keys, h1.nd, fun x hx => by rw [(cleanC_eq _ k x).1]; exact h1.frb x hx, fun x hx => by rw [(cleanC_eq _ k x).2.2]; exact h1.pin x hx, h1.clk, h1.few, h1.mst⟩, fun ht => ⟨fun s hs hd => ?_, fun s hs => ?_⟩⟩
  · have hs' : (s : Int) ∈ C.ks := hs
    have hsn := h.keys s hs'
    rw [(cleanC_eq _ k s).2.1] at hd
    rw [(cleanC_eq _ k s).1]
    show (C.F s).b = pickD (wrC C k).D s
    rw [h2 ht s (by omega)]
    by_cases hks : k = s
    · rw [if_pos hks, hks]
    · rw [if_neg hks]
      rw [if_neg (fun e => hks e.symm)] at hd
      exact ht s hs' hd
  · unfold curC
    rw [(cleanC_eq _ k s).1]
    show (if (s : Int) ∈ C.ks then (C.F s).b else pickD (wrC C k).D s) = _
    by_cases hm : (s : Int) ∈ C.ks
    · rw [if_pos hm, if_pos hm]
    · rw [if_neg hm, if_neg hm, h2 ht s hs, if_neg (fun e => hm (by rw [← e]; exact hk))]
theorem flush_live : ∀ (l : List Int) {C : Ch} {N : Nat}, LiveC C n N → (∀ k ∈ l, k ∈ C.ks) → LiveC (flushL C l) n (N + 2 * l.length) ∧ (flushL C l).ks = C.ks ∧ (TrueC C → TrueC (flushL C l) ∧ ∀ s, s < n → curC (flushL C l) s = curC C s) ∧ (∀ k, ((flushL C l).F k).dirty = true → (C.F k).dirty = true ∧ k ∉ l) ∧ ∀ k, ((flushL C l).F k).pins = (C.F k).pins
  | [], C, N, h, _ => ⟨h, rfl, fun ht => ⟨ht, fun _ _ => rfl⟩, fun k hk => ⟨hk, by simp⟩, fun _ => rfl⟩
  | k :: l, C, N, h, hl => by
    obtain ⟨h1, h2⟩ := h.clean (hl k (by simp))
    obtain ⟨g1, g2, g3, g4, g5⟩ := flush_live l h1 (fun x hx => hl x (by simp [hx]))
    refine ⟨g1.le (by simp; omega), g2, fun ht => ?_, fun x hx => ?_, fun x => ?_⟩
    · obtain ⟨t1, t2⟩ := h2 ht
      obtain ⟨u1, u2⟩ := g3 t1
      exact ⟨u1, fun s hs => by rw [show flushL C (k :: l) = flushL (cleanC (wrC C k) k) l from rfl, u2 s hs, t2 s hs]⟩
    · obtain ⟨v1, v2⟩ := g4 x hx
      rw [(cleanC_eq _ k x).2.1] at v1
      by_cases hxk : x = k
      · rw [if_pos hxk] at v1; cases v1
      · rw [if_neg hxk] at v1
        exact ⟨v1, by simp [hxk, v2]⟩
    · rw [show flushL C (k :: l) = flushL (cleanC (wrC C k) k) l from rfl, g5 x, (cleanC_eq _ k x).2.2]
      rfl
theorem FlushR.live (h : LiveC C n N) (hr : FlushR C C') : LiveC C' n (N + 2 * C.ks.length + 2) ∧ C'.ks = C.ks ∧ (∀ k ∈ C'.ks, (C'.F k).dirty = false) ∧ (∀ k, (C'.F k).pins = (C.F k).pins) ∧ (TrueC C → TrueC C' ∧ (∀ s, s < n → curC C' s = curC C s) ∧ ∀ s, s < n → C'.D.S.getD s [] = curC C s) := by
  obtain ⟨l, hl, rfl⟩ := hr
  obtain ⟨g1, g2, g3, g4, g5⟩ := flush_live l h (fun k hk => hl.mem_iff.1 hk)
  rw [hl.length_eq] at g1
  obtain ⟨_, b1, b2, b3⟩ := g1.D.bar
  have hclean : ∀ k ∈ C.ks, ((flushL C l).F k).dirty = false := fun k hk => by
    cases hd : ((flushL C l).F k).dirty with
    | false => rfl
    | true => exact absurd (hl.mem_iff.2 hk) (g4 k hd).2
  have g0 := g1.le (show N + 2 * C.ks.length ≤ N + 2 * C.ks.length + 2 by omega)
  refine ⟨⟨b1, g0.keys, g0.nd, g0.frb, g0.pin, g0.clk, g0.few, g0.mst⟩, g2, fun k hk => hclean k (by rw [← g2]; exact hk), g5, fun ht => ?_⟩
  obtain ⟨t1, t2⟩ := g3 ht
  have hcur : ∀ s, s < n → curC (flushL C l) s = pickD (flushL C l).D s := fun s hs => by
    unfold curC
    split
    · rename_i hm
      exact t1 s hm (hclean _ (by rw [← g2]; exact hm))
    · rfl
  refine ⟨fun s hs hd => ?_, fun s hs => ?_, fun s hs => ?_⟩
  · have hsn := g0.keys s hs
    show ((flushL C l).F s).b = pickD (barrierD (flushL C l).D) s
    rw [b2 s (by omega)]
    exact t1 s hs hd
  · rw [← t2 s hs]
    show (if (s : Int) ∈ (flushL C l).ks then ((flushL C l).F s).b else pickD (barrierD (flushL C l).D) s) = curC (flushL C l) s
    rw [b2 s hs]; rfl
  · show (barrierD (flushL C l).D).S.getD s [] = _
    rw [b3 s hs, ← hcur s hs, t2 s hs]
theorem LiveC.start {D : Dk} (h : LiveD D n N) {m : Int} (hm : 1 ≤ m ∧ m ≤ 1024) : LiveC ⟨D, m, 0, [], fun _ => ⟨[], 0, false, 0⟩⟩ n N ∧ TrueC ⟨D, m, 0, [], fun _ => ⟨[], 0, false, 0⟩⟩ ∧ ∀ s, curC ⟨D, m, 0, [], fun _ => ⟨[], 0, false, 0⟩⟩ s = pickD D s :=
  ⟨⟨h, fun k hk => by simp at hk, List.nodup_nil, fun k hk => by simp at hk, fun k hk => by simp at hk, ⟨Int.le_refl _, Int.natCast_nonneg N⟩, by simp; omega, hm⟩, fun s hs => by simp at hs, fun s => by unfold curC; simp⟩
end Go.Proofs.Ytchjfmgfoifbcaa
