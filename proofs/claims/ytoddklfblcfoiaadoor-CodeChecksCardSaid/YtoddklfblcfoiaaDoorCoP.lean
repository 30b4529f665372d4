/-
  Code as bytes: how it is written and read; its plain law. No condition: plain laws.
-/
import Derived.Test.YtoddklfblcfoiaaDoorOctRef
namespace Go.Proofs.YtoddklfblcfoiaaDoor
open Go Go.RowKit
set_option linter.unusedVariables false
set_option linter.unusedSimpArgs false

structure Ins where
  op : UInt8
  a : Int
  b : Int
  c : Int
  t : List UInt8
structure Sta where
  n : List UInt8
  s : List UInt8
structure Cod where
  f : List (List Ins)
  r : List Sta
def u64 (x : Int) : Nat := (x % 18446744073709551616).toNat
def i64 (x : Nat) : Int := if x < 9223372036854775808 then (x : Int) else (x : Int) - 18446744073709551616
def In64 (x : Int) : Prop := -9223372036854775808 ≤ x ∧ x ≤ 9223372036854775807
theorem u64_lt (x : Int) : u64 x < 18446744073709551616 := by unfold u64; omega
theorem i64_u64 {x : Int} (h : In64 x) : i64 (u64 x) = x := by
  unfold In64 at h
  unfold i64 u64
  by_cases h0 : 0 ≤ x
  · rw [Int.emod_eq_of_lt h0 (by omega), if_pos (by omega)]; omega
  · have e : x % 18446744073709551616 = x + 18446744073709551616 := by omega
    rw [e, if_neg (by omega)]
    omega
theorem u64_i64 {n : Nat} (h : n < 18446744073709551616) : u64 (i64 n) = n ∧ In64 (i64 n) := by
  unfold i64 u64 In64
  split <;> omega
/-! ### readers -/
abbrev Rdr (α : Type) := List UInt8 → Nat → Option (α × Nat)
/-- a reader, and what is written of what it reads -/
structure Codec {α : Type} (p : Rdr α) (pr : α → List UInt8) (ok : α → Prop) : Prop where
  back : ∀ (x : α) (pre post : List UInt8), ok x → p (pre ++ (pr x ++ post)) pre.length = some (x, pre.length + (pr x).length)
  read : ∀ (l : List UInt8) (at_ : Nat) (x : α) (to_ : Nat), p l at_ = some (x, to_) → ok x ∧ at_ ≤ to_ ∧ to_ ≤ l.length ∧ (l.drop at_).take (to_ - at_) = pr x
theorem Codec.split {α : Type} {p : Rdr α} {pr : α → List UInt8} {ok : α → Prop} (h : Codec p pr ok) {l : List UInt8} {at_ : Nat} {x : α} {to_ : Nat} (hp : p l at_ = some (x, to_)) : l = l.take at_ ++ (pr x ++ l.drop to_) ∧ (l.take at_).length = at_ ∧ to_ = at_ + (pr x).length ∧ ok x := by
  obtain ⟨h1, h2, h3, h4⟩ := h.read l at_ x to_ hp
  have hl : (l.take at_).length = at_ := by rw [List.length_take]; omega
  refine ⟨?_, hl, ?_, h1⟩
  · rw [← h4]
    have : l.drop to_ = (l.drop at_).drop (to_ - at_) := by rw [List.drop_drop]; congr 1; omega
    rw [this, List.take_append_drop, List.take_append_drop]
  · rw [← h4, List.length_take, List.length_drop]
    omega
/-- what is read stays, when more comes behind -/
theorem Codec.ext {α : Type} {p : Rdr α} {pr : α → List UInt8} {ok : α → Prop} (h : Codec p pr ok) {l : List UInt8} {at_ : Nat} {x : α} {to_ : Nat} (hp : p l at_ = some (x, to_)) (e : List UInt8) : p (l ++ e) at_ = some (x, to_) := by
  obtain ⟨h1, h2, h3, h4⟩ := h.split hp
  have := h.back x (l.take at_) (l.drop to_ ++ e) h4
  rw [h2, ← h3] at this
  rw [← this]
  congr 1
  conv => lhs; rw [h1]
  simp only [List.append_assoc]
def seqP {α β : Type} (p : Rdr α) (q : Rdr β) : Rdr (α × β) := fun l at_ => match p l at_ with
  | none => none
  | some (x, m) => match q l m with
    | none => none
    | some (y, n) => some ((x, y), n)
theorem Codec.seq {α β : Type} {p : Rdr α} {q : Rdr β} {pr : α → List UInt8} {qr : β → List UInt8} {ok : α → Prop} {ok2 : β → Prop} (hp : Codec p pr ok) (hq : Codec q qr ok2) : Codec (seqP p q) (fun z => pr z.1 ++ qr z.2) (fun z => ok z.1 ∧ ok2 z.2) := by
  refine ⟨fun z pre post hz => ?_, fun l at_ z to_ h => ?_⟩
  · have h1 := hp.back z.1 pre (qr z.2 ++ post) hz.1
    have h2 := hq.back z.2 (pre ++ pr z.1) post hz.2
    rw [List.length_append] at h2
    have e : pre ++ (pr z.1 ++ qr z.2 ++ post) = pre ++ (pr z.1 ++ (qr z.2 ++ post)) := by simp only [List.append_assoc]
    have e2 : pre ++ (pr z.1 ++ (qr z.2 ++ post)) = pre ++ pr z.1 ++ (qr z.2 ++ post) := by simp only [List.append_assoc]
    unfold seqP
    rw [e, h1]
    simp only
    rw [e2, h2]
    simp only [List.length_append]
    congr 2
    omega
  · unfold seqP at h
    cases h1 : p l at_ with
    | none => rw [h1] at h; cases h
    | some r =>
      obtain ⟨x, m⟩ := r
      rw [h1] at h
      simp only at h
      cases h2 : q l m with
      | none => rw [h2] at h; cases h
      | some s =>
        obtain ⟨y, n⟩ := s
        rw [h2] at h
        cases h
        obtain ⟨a1, a2, a3, a4⟩ := hp.read _ _ _ _ h1
        obtain ⟨b1, b2, b3, b4⟩ := hq.read _ _ _ _ h2
        refine ⟨⟨a1, b1⟩, by omega, b3, ?_⟩
        show _ = pr x ++ qr y
        rw [← a4, ← b4, show to_ - at_ = (m - at_) + (to_ - m) by omega, List.take_add, List.drop_drop, show at_ + (m - at_) = m by omega]
def mapP {α β : Type} (f : α → β) (p : Rdr α) : Rdr β := fun l at_ => match p l at_ with
  | none => none
  | some (x, m) => some (f x, m)
theorem Codec.map {α β : Type} {p : Rdr α} {pr : α → List UInt8} {ok : α → Prop} (hp : Codec p pr ok) (f : α → β) (g : β → α) {ok' : β → Prop} (h1 : ∀ y, ok' y → ok (g y) ∧ f (g y) = y) (h2 : ∀ x, ok x → ok' (f x) ∧ g (f x) = x) : Codec (mapP f p) (fun y => pr (g y)) ok' := by
  refine ⟨fun y pre post hy => ?_, fun l at_ y to_ h => ?_⟩
  · unfold mapP
    rw [hp.back (g y) pre post (h1 y hy).1]
    simp only [(h1 y hy).2]
  · unfold mapP at h
    cases hx : p l at_ with
    | none => rw [hx] at h; cases h
    | some r =>
      obtain ⟨x, m⟩ := r
      rw [hx] at h
      cases h
      obtain ⟨a1, a2, a3, a4⟩ := hp.read _ _ _ _ hx
      exact ⟨(h2 x a1).1, a2, a3, by rw [(h2 x a1).2]; exact a4⟩
def manyP {α : Type} (p : Rdr α) : Nat → Rdr (List α)
  | 0 => fun _ at_ => some ([], at_)
  | n + 1 => fun l at_ => match p l at_ with
    | none => none
    | some (x, m) => match manyP p n l m with
      | none => none
      | some (xs, k) => some (x :: xs, k)
theorem manyP_succ {α : Type} (p : Rdr α) (n : Nat) (l : List UInt8) (at_ : Nat) : manyP p (n + 1) l at_ = match p l at_ with
    | none => none
    | some (x, m) => match manyP p n l m with
      | none => none
      | some (xs, k) => some (x :: xs, k) := rfl
theorem many_back {α : Type} {p : Rdr α} {pr : α → List UInt8} {ok : α → Prop} (hp : Codec p pr ok) : ∀ (xs : List α) (pre post : List UInt8), (∀ x ∈ xs, ok x) → manyP p xs.length (pre ++ (xs.flatMap pr ++ post)) pre.length = some (xs, pre.length + (xs.flatMap pr).length)
  | [], pre, post, _ => by simp [manyP]
  | x :: xs, pre, post, h => by
    have h1 := hp.back x pre (xs.flatMap pr ++ post) (h x (List.mem_cons_self ..))
    have h2 := many_back hp xs (pre ++ pr x) post (fun y hy => h y (List.mem_cons_of_mem _ hy))
    rw [List.length_append] at h2
    have e : pre ++ ((x :: xs).flatMap pr ++ post) = pre ++ (pr x ++ (xs.flatMap pr ++ post)) := by simp only [List.flatMap_cons, List.append_assoc]
    have e2 : pre ++ (pr x ++ (xs.flatMap pr ++ post)) = pre ++ pr x ++ (xs.flatMap pr ++ post) := by simp only [List.append_assoc]
    rw [List.length_cons, manyP_succ, e, h1]
    simp only
    rw [e2, h2]
    simp only [List.flatMap_cons, List.length_append]
    congr 2
    omega
theorem many_read {α : Type} {p : Rdr α} {pr : α → List UInt8} {ok : α → Prop} (hp : Codec p pr ok) : ∀ (n : Nat) (l : List UInt8) (at_ : Nat) (xs : List α) (to_ : Nat), at_ ≤ l.length → manyP p n l at_ = some (xs, to_) → xs.length = n ∧ (∀ x ∈ xs, ok x) ∧ at_ ≤ to_ ∧ to_ ≤ l.length ∧ (l.drop at_).take (to_ - at_) = xs.flatMap pr
  | 0, l, at_, xs, to_, hat, h => by
    cases h
    simp
    exact hat
  | n + 1, l, at_, xs, to_, hat, h => by
    rw [manyP_succ] at h
    cases h1 : p l at_ with
    | none => rw [h1] at h; cases h
    | some r =>
      obtain ⟨x, m⟩ := r
      rw [h1] at h
      simp only at h
      cases h2 : manyP p n l m with
      | none => rw [h2] at h; cases h
      | some s =>
        obtain ⟨ys, k⟩ := s
        rw [h2] at h
        cases h
        obtain ⟨a1, a2, a3, a4⟩ := hp.read _ _ _ _ h1
        obtain ⟨b0, b1, b2, b3, b4⟩ := many_read hp n l m ys to_ a3 h2
        refine ⟨by rw [List.length_cons, b0], fun y hy => ?_, by omega, b3, ?_⟩
        · rcases List.mem_cons.1 hy with rfl | hy
          · exact a1
          · exact b1 y hy
        · rw [List.flatMap_cons, ← a4, ← b4, show to_ - at_ = (m - at_) + (to_ - m) by omega, List.take_add, List.drop_drop, show at_ + (m - at_) = m by omega]
/-! ### numbers, texts -/
def numP (k : Nat) : Rdr Nat := fun l at_ => if at_ + k ≤ l.length then some (leN ((l.drop at_).take k), at_ + k) else none
theorem leN_digs : ∀ (k x : Nat), leN (digs x k) = x % 256 ^ k := by
  intro k
  induction k with
  | zero => intro x; simp [digs, leN, Nat.mod_one]
  | succ k ih =>
    intro x
    have e : digs x (k + 1) = UInt8.ofNat (x % 256) :: digs (x / 256) k := by
      unfold digs
      rw [List.range_succ_eq_map, List.map_cons, List.map_map]
      congr 1
      · simp
      · refine List.map_congr_left fun i _ => ?_
        simp only [Function.comp]
        rw [Nat.pow_succ, Nat.mul_comm (256 ^ i) 256, Nat.div_div_eq_div_mul]
    rw [e, leN, ih]
    have h1 : (UInt8.ofNat (x % 256)).toNat = x % 256 := by
      rw [UInt8.toNat_ofNat']
      omega
    rw [h1, Nat.pow_succ, Nat.mul_comm (256 ^ k) 256, Nat.mod_mul]
theorem digs_leN : ∀ (l : List UInt8), digs (leN l) l.length = l
  | [] => by simp [digs]
  | b :: r => by
    have e : digs (leN (b :: r)) (r.length + 1) = UInt8.ofNat (leN (b :: r) % 256) :: digs (leN (b :: r) / 256) r.length := by
      unfold digs
      rw [List.range_succ_eq_map, List.map_cons, List.map_map]
      congr 1
      · simp
      · refine List.map_congr_left fun i _ => ?_
        simp only [Function.comp]
        rw [Nat.pow_succ, Nat.mul_comm (256 ^ i) 256, Nat.div_div_eq_div_mul]
    have hb := b.toNat_lt
    have h1 : leN (b :: r) % 256 = b.toNat := by rw [leN]; omega
    have h2 : leN (b :: r) / 256 = leN r := by rw [leN]; omega
    rw [List.length_cons, e, h1, h2, digs_leN r]
    congr 1
    exact UInt8.ofNat_toNat
theorem numP_codec (k : Nat) : Codec (numP k) (fun x => digs x k) (fun x => x < 256 ^ k) := by
  refine ⟨fun x pre post hx => ?_, fun l at_ x to_ h => ?_⟩
  · unfold numP
    have hl := digs_length x k
    rw [if_pos (by simp only [List.length_append, hl]; omega), List.drop_left, List.take_left' hl, leN_digs, Nat.mod_eq_of_lt hx, hl]
  · unfold numP at h
    split at h
    · rename_i hle
      cases h
      have hl : ((l.drop at_).take k).length = k := by rw [List.length_take, List.length_drop]; omega
      refine ⟨?_, by omega, by omega, ?_⟩
      · have := leN_lt ((l.drop at_).take k)
        rwa [hl] at this
      · have := digs_leN ((l.drop at_).take k)
        rw [hl] at this
        rw [this]
        congr 1
        omega
    · cases h
def textP : Rdr (List UInt8) := fun l at_ => match numP 4 l at_ with
  | none => none
  | some (n, m) => if m + n ≤ l.length then some ((l.drop m).take n, m + n) else none
def textL (s : List UInt8) : List UInt8 := digs s.length 4 ++ s
theorem textP_codec : Codec textP textL (fun s => s.length < 4294967296) := by
  have hn := numP_codec 4
  refine ⟨fun x pre post hx => ?_, fun l at_ x to_ h => ?_⟩
  · have h1 := hn.back x.length pre (x ++ post) hx
    have e : pre ++ (textL x ++ post) = pre ++ (digs x.length 4 ++ (x ++ post)) := by simp only [textL, List.append_assoc]
    have hl := digs_length x.length 4
    unfold textP
    rw [e, h1]
    simp only [hl]
    rw [if_pos (by simp only [List.length_append, hl]; omega)]
    have e2 : pre ++ (digs x.length 4 ++ (x ++ post)) = (pre ++ digs x.length 4) ++ (x ++ post) := by simp only [List.append_assoc]
    rw [e2, List.drop_left' (by rw [List.length_append, hl]), List.take_left]
    simp only [textL, List.length_append, hl]
    congr 2
    omega
  · unfold textP at h
    cases h1 : numP 4 l at_ with
    | none => rw [h1] at h; cases h
    | some r =>
      obtain ⟨n, m⟩ := r
      rw [h1] at h
      simp only at h
      split at h
      · rename_i hle
        cases h
        obtain ⟨a1, a2, a3, a4⟩ := hn.read _ _ _ _ h1
        have hl : ((l.drop m).take n).length = n := by rw [List.length_take, List.length_drop]; omega
        refine ⟨by rw [hl]; exact a1, by omega, hle, ?_⟩
        rw [textL, hl, ← a4, show m + n - at_ = (m - at_) + n by omega, List.take_add, List.drop_drop, show at_ + (m - at_) = m by omega]
      · cases h
/-- so many, and these -/
def lenP {α : Type} (p : Rdr α) : Rdr (List α) := fun l at_ => match numP 4 l at_ with
  | none => none
  | some (n, m) => manyP p n l m
def lenL {α : Type} (pr : α → List UInt8) (xs : List α) : List UInt8 := digs xs.length 4 ++ xs.flatMap pr
theorem Codec.len {α : Type} {p : Rdr α} {pr : α → List UInt8} {ok : α → Prop} (hp : Codec p pr ok) : Codec (lenP p) (lenL pr) (fun xs => xs.length < 4294967296 ∧ ∀ x ∈ xs, ok x) := by
  have hn := numP_codec 4
  refine ⟨fun xs pre post hx => ?_, fun l at_ xs to_ h => ?_⟩
  · have h1 := hn.back xs.length pre (xs.flatMap pr ++ post) hx.1
    have h2 := many_back hp xs (pre ++ digs xs.length 4) post hx.2
    rw [List.length_append] at h2
    have e : pre ++ (lenL pr xs ++ post) = pre ++ (digs xs.length 4 ++ (xs.flatMap pr ++ post)) := by simp only [lenL, List.append_assoc]
    have e2 : pre ++ (digs xs.length 4 ++ (xs.flatMap pr ++ post)) = pre ++ digs xs.length 4 ++ (xs.flatMap pr ++ post) := by simp only [List.append_assoc]
    unfold lenP
    rw [e, h1]
    simp only
    rw [e2, h2]
    simp only [lenL, List.length_append]
    congr 2
    omega
  · unfold lenP at h
    cases h1 : numP 4 l at_ with
    | none => rw [h1] at h; cases h
    | some r =>
      obtain ⟨n, m⟩ := r
      rw [h1] at h
      simp only at h
      obtain ⟨a1, a2, a3, a4⟩ := hn.read _ _ _ _ h1
      obtain ⟨b0, b1, b2, b3, b4⟩ := many_read hp n l m xs to_ a3 h
      refine ⟨⟨by rw [b0]; exact a1, b1⟩, by omega, b3, ?_⟩
      rw [lenL, b0, ← a4, ← b4, show to_ - at_ = (m - at_) + (to_ - m) by omega, List.take_add, List.drop_drop, show at_ + (m - at_) = m by omega]
/-! ### code -/
def InsOk (x : Ins) : Prop := In64 x.a ∧ In64 x.b ∧ In64 x.c ∧ x.t.length < 4294967296
def insL (x : Ins) : List UInt8 := digs x.op.toNat 1 ++ (digs (u64 x.a) 8 ++ (digs (u64 x.b) 8 ++ (digs (u64 x.c) 8 ++ textL x.t)))
def insP : Rdr Ins := mapP (fun z => ⟨UInt8.ofNat z.1, i64 z.2.1, i64 z.2.2.1, i64 z.2.2.2.1, z.2.2.2.2⟩) (seqP (numP 1) (seqP (numP 8) (seqP (numP 8) (seqP (numP 8) textP))))
theorem insP_codec : Codec insP insL InsOk := by
  refine ((numP_codec 1).seq ((numP_codec 8).seq ((numP_codec 8).seq ((numP_codec 8).seq textP_codec)))).map _ (fun (x : Ins) => (x.op.toNat, u64 x.a, u64 x.b, u64 x.c, x.t)) (fun y hy => ?_) (fun z hz => ?_)
  · obtain ⟨h1, h2, h3, h4⟩ := hy
    have := y.op.toNat_lt
    refine ⟨⟨by simp; omega, by simpa using u64_lt y.a, by simpa using u64_lt y.b, by simpa using u64_lt y.c, h4⟩, ?_⟩
    simp only [i64_u64 h1, i64_u64 h2, i64_u64 h3, UInt8.ofNat_toNat]
  · obtain ⟨h1, h2, h3, h4, h5⟩ := hz
    have e2 := u64_i64 (n := z.2.1) (by simpa using h2)
    have e3 := u64_i64 (n := z.2.2.1) (by simpa using h3)
    have e4 := u64_i64 (n := z.2.2.2.1) (by simpa using h4)
    refine ⟨⟨e2.2, e3.2, e4.2, h5⟩, ?_⟩
    simp only [e2.1, e3.1, e4.1]
    have : (UInt8.ofNat z.1).toNat = z.1 := by
      rw [UInt8.toNat_ofNat']
      exact Nat.mod_eq_of_lt (by simpa using h1)
    rw [this]
def StaOk (x : Sta) : Prop := x.n.length < 4294967296 ∧ x.s.length < 4294967296
def staL (x : Sta) : List UInt8 := textL x.n ++ textL x.s
def staP : Rdr Sta := mapP (fun z => ⟨z.1, z.2⟩) (seqP textP textP)
theorem staP_codec : Codec staP staL StaOk :=
  (textP_codec.seq textP_codec).map (fun z => (⟨z.1, z.2⟩ : Sta)) (fun (x : Sta) => (x.n, x.s)) (ok' := StaOk) (fun y hy => ⟨hy, rfl⟩) (fun z hz => ⟨hz, rfl⟩)
def CodOk (c : Cod) : Prop := (c.f.length < 4294967296 ∧ ∀ f ∈ c.f, f.length < 4294967296 ∧ ∀ x ∈ f, InsOk x) ∧ c.r.length < 4294967296 ∧ ∀ x ∈ c.r, StaOk x
def codL (c : Cod) : List UInt8 := lenL (lenL insL) c.f ++ lenL staL c.r
def codP : Rdr Cod := mapP (fun z => ⟨z.1, z.2⟩) (seqP (lenP (lenP insP)) (lenP staP))
theorem codP_codec : Codec codP codL CodOk :=
  (insP_codec.len.len.seq staP_codec.len).map (fun z => (⟨z.1, z.2⟩ : Cod)) (fun (c : Cod) => (c.f, c.r)) (ok' := CodOk) (fun y hy => ⟨hy, rfl⟩) (fun z hz => ⟨hz, rfl⟩)
def readC (l : List UInt8) : Option Cod := match codP l 0 with
  | none => none
  | some (c, n) => if n = l.length then some c else none
theorem read_write {c : Cod} (h : CodOk c) : readC (codL c) = some c := by
  have := codP_codec.back c [] [] h
  simp only [List.nil_append, List.append_nil, List.length_nil, Nat.zero_add] at this
  unfold readC
  rw [this]
  simp
theorem write_read {l : List UInt8} {c : Cod} (h : readC l = some c) : codL c = l ∧ CodOk c := by
  unfold readC at h
  cases h1 : codP l 0 with
  | none => rw [h1] at h; cases h
  | some r =>
    obtain ⟨d, n⟩ := r
    rw [h1] at h
    simp only at h
    split at h
    · rename_i hn
      cases h
      obtain ⟨a1, a2, a3, a4⟩ := codP_codec.read _ _ _ _ h1
      refine ⟨?_, a1⟩
      rw [← a4, hn]
      simp
    · cases h
/-- bytes of a code that are cut are none's -/
theorem read_cut {c : Cod} (h : CodOk c) {k : Nat} (hk : k < (codL c).length) : readC ((codL c).take k) = none := by
  cases hr : readC ((codL c).take k) with
  | none => rfl
  | some d =>
    unfold readC at hr
    cases h1 : codP ((codL c).take k) 0 with
    | none => rw [h1] at hr; cases hr
    | some r =>
      obtain ⟨d', n⟩ := r
      rw [h1] at hr
      simp only at hr
      split at hr
      · rename_i hn
        have h2 := codP_codec.ext h1 ((codL c).drop k)
        rw [List.take_append_drop] at h2
        have h3 := codP_codec.back c [] [] h
        simp only [List.nil_append, List.append_nil, List.length_nil, Nat.zero_add] at h3
        rw [h3] at h2
        cases h2
        rw [List.length_take] at hn
        omega
      · cases hr
/-- bytes with more behind them are none's -/
theorem read_more {c : Cod} (h : CodOk c) (x : UInt8) : readC (codL c ++ [x]) = none := by
  have h3 := codP_codec.back c [] [x] h
  simp only [List.nil_append, List.length_nil, Nat.zero_add] at h3
  unfold readC
  rw [h3]
  simp
theorem codL_len (c : Cod) : 8 ≤ (codL c).length := by
  unfold codL lenL
  simp only [List.length_append, digs_length]
  omega
end Go.Proofs.YtoddklfblcfoiaaDoor
