/-
  An instruction behind bytes, walked. Conditions: bytes and text within a machine's reach.
-/
import Derived.Test.YtoddklfblcfoiaaDoorCoA
import Derived.Deep.Cut
import Derived.Deep.CutBlock
namespace Go.Proofs.YtoddklfblcfoiaaDoor
open Go Go.RowKit
set_option linter.unusedVariables false
set_option linter.unusedSimpArgs false
set_option maxRecDepth 100000

theorem u64w (z : Int) : IntKind.u64.wrap z = (u64 z : Int) := by
  have : (u64 z : Int) = z % 18446744073709551616 := by unfold u64; omega
  rw [this]
  simp [IntKind.wrap, IntKind.signed, IntKind.bits]
def insV (x : Ins) : Value := .agg #[.int .u8 (x.op.toNat : Int), .int .i64 x.a, .int .i64 x.b, .int .i64 x.c, .string (str x.t)]
def insTo (x : Ins) (i : Nat) : List UInt8 := [x.op] ++ (([u64 x.a, u64 x.b, u64 x.c].take i).flatMap fun z => digs z 8)
theorem digs1 (x : UInt8) : digs x.toNat 1 = [x] := by
  simp [digs]
theorem insTo_all (x : Ins) : insTo x 3 ++ textL x.t = insL x := by
  simp [insTo, insL, digs1]
theorem insTo_len (x : Ins) {i : Nat} (h : i ≤ 3) : (insTo x i).length = 1 + 8 * i := by
  have : i = 0 ∨ i = 1 ∨ i = 2 ∨ i = 3 := by omega
  rcases this with rfl | rfl | rfl | rfl <;> simp [insTo, digs_length]
def IsR (base : Nat) (w : World) (g : Nat) (l : List UInt8) (x : Ins) (v0 v19 : Value) (wr : World) : Prop :=
  ∃ (i : Nat) (a : Option Addr) (M c : Nat), i ≤ 3 ∧ v19 = .int .i64 (i : Nat) ∧ v0 = .slice a M c ∧ M = l.length + 1 + 8 * i ∧ Hid (Own wr base 1 (.slice a M c) M (bvs (l ++ insTo x i)) ∧ Row wr g 46 [.int .u8 (x.op.toNat : Int), .int .i64 x.a, .int .i64 x.b, .int .i64 x.c, .string (str x.t)] ∧ Below base w wr ∧ base ≤ wr.heap.size)
theorem IsR.mk {base : Nat} {w : World} {g : Nat} {l : List UInt8} {x : Ins} {v0 v19 : Value} {wr : World} (i : Nat) (a : Option Addr) (M c : Nat) (h1 : i ≤ 3) (h2 : v19 = .int .i64 (i : Nat)) (h3 : v0 = .slice a M c) (h4 : M = l.length + 1 + 8 * i) (h5 : Own wr base 1 (.slice a M c) M (bvs (l ++ insTo x i))) (h6 : Row wr g 46 [.int .u8 (x.op.toNat : Int), .int .i64 x.a, .int .i64 x.b, .int .i64 x.c, .string (str x.t)]) (h7 : Below base w wr) (h8 : base ≤ wr.heap.size) : IsR base w g l x v0 v19 wr := ⟨i, a, M, c, h1, h2, h3, h4, Lib.hid ⟨h5, h6, h7, h8⟩⟩
set_option maxHeartbeats 4000000 in
theorem instr_p (a : Option Addr) (n c : Nat) (l : List UInt8) (x : Ins) (w : World) (base : Nat) (ho : Own w base 1 (.slice a n c) n (bvs l)) (hbase : base ≤ w.heap.size) (hsz : n ≤ 1000000000) (hS : x.t.length ≤ 1000000000) :
    Calls Tryd.prog 27 #[.slice a n c, .agg #[.int .u8 (x.op.toNat : Int), .int .i64 x.a, .int .i64 x.b, .int .i64 x.c, .string (str x.t)]] w fun e w' => ∃ v, e = .returned v ∧ Own w' base 1 v (l ++ insL x).length (bvs (l ++ insL x)) ∧ Below base w w' := by
  have hn := ho.len
  obtain ⟨w1, hw1⟩ : ∃ y, y = w.alloc (.cells #[.int .u8 (x.op.toNat : Int), .int .i64 x.a, .int .i64 x.b, .int .i64 x.c, .string (str x.t)] 46) := ⟨_, rfl⟩
  have hr1 : Row w1 w.heap.size 46 [.int .u8 (x.op.toNat : Int), .int .i64 x.a, .int .i64 x.b, .int .i64 x.c, .string (str x.t)] := by rw [hw1]; exact Row.new w _ _
  have hb1 : Below w.heap.size w w1 := by rw [hw1]; exact (Below.refl _ _).alloc (Nat.le_refl _) _
  have ho1 := ho.below hb1
  have HR1 := Lib.hid hr1
  have HB1 := Lib.hid (hb1.mono hbase)
  have HOL : Hid (∀ g, (Value.slice a n c).ownBlock = some g → g < w.heap.size) := Lib.hid (fun g hg => ho.lives g hg)
  have HS1 : Hid (base ≤ w1.heap.size) := Lib.hid (Nat.le_trans hbase hb1.size)
  obtain ⟨gx, hgx⟩ : ∃ g, g = w.heap.size := ⟨_, rfl⟩
  have HGX := Lib.hid hgx
  have c0 := hr1.cell 0
  simp only [List.getElem?_cons_zero, List.getElem?_cons_succ] at c0
  have ho2 := ho1.alloc (.cells #[.int .u8 (x.op.toNat : Int)] 5)
  have hs2 : Sl (w1.alloc (.cells #[.int .u8 (x.op.toNat : Int)] 5)) 1 (.slice (some ⟨w1.heap.size, 0, none⟩) 1 1) 1 [.int .u8 (x.op.toNat : Int)] := Sl.one w1 _ _
  have hr2 : Row (w1.alloc (.cells #[.int .u8 (x.op.toNat : Int)] 5)) w.heap.size 46 _ := hr1.alloc _
  have HR2 := Lib.hid hr2
  have HB2 := Lib.hid (HB1.out.alloc HS1.out (.cells #[.int .u8 (x.op.toNat : Int)] 5))
  have hs9 : base ≤ (w1.alloc (.cells #[.int .u8 (x.op.toNat : Int)] 5)).heap.size := by have := HS1.out; simp; omega
  have HS9 := Lib.hid hs9
  have HO2 := Lib.hid ho2
  clear ho hr1 hb1 ho1 hr2
  go_enter Tryd.func27, Tryd.ntmps27
  go_upto_region 1 with fail
  rw [← hw1]
  clear hw1 hgx
  try go_frame
  go_upto_region 2 with (at_builtin; refine wpL_append etB rfl _ _ rfl HO2.out rfl hs2 rfl (by simp [Value.oneCell']) (by omega) (by simp [maxLen]; omega) HS9.out ?_; intro v3 w3 ho3 hg3; obtain ⟨a3, c3, rfl⟩ := ho3.form)
  have HR3 := Lib.hid (HR2.out.grown hg3 (fun e => by have := HOL.out _ e.symm; omega))
  have HB3 := Lib.hid (below_own HB2.out HO2.out hg3 (Nat.le_refl _) HS9.out)
  have HS3 : Hid (base ≤ w3.heap.size) := Lib.hid (Nat.le_trans HS9.out hg3.size)
  have HO3 : Hid (Own w3 base 1 (.slice a3 (n + 1) c3) (n + 1) (bvs (l ++ insTo x 0))) := Lib.hid (by
    have e : bvs (l ++ insTo x 0) = bvs l ++ [.int .u8 (x.op.toNat : Int)] := by rw [bvs_append]; simp [insTo, bvs]
    rw [e]; exact ho3)
  have c1 := HR3.out.cell 1
  have c2 := HR3.out.cell 2
  have c3' := HR3.out.cell 3
  simp only [List.getElem?_cons_zero, List.getElem?_cons_succ] at c1 c2 c3'
  have hn1 := hn.1
  clear ho3 hg3 c0 ho2 hs2 hs9
  go_wp2_with fail
  clear c1 c2 c3'
  have i0 : ∀ w : World, Sem.run Tryd.prog (Instr.index 100 (.agg #[.int .i64 x.a, .int .i64 x.b, .int .i64 x.c]) (.int .i64 0)) w = .ok (.int .i64 x.a) w := fun _ => by kernel_rfl
  have i1 : ∀ w : World, Sem.run Tryd.prog (Instr.index 100 (.agg #[.int .i64 x.a, .int .i64 x.b, .int .i64 x.c]) (.int .i64 1)) w = .ok (.int .i64 x.b) w := fun _ => by kernel_rfl
  have i2 : ∀ w : World, Sem.run Tryd.prog (Instr.index 100 (.agg #[.int .i64 x.a, .int .i64 x.b, .int .i64 x.c]) (.int .i64 2)) w = .ok (.int .i64 x.c) w := fun _ => by kernel_rfl
  go_loopw [0, 19] (fun v0 v19 wr => IsR base w w.heap.size l x v0 v19 wr) (fun _ v19 _ => 3 - (intOf v19).toNat)
  case atStart => exact IsR.mk 0 a3 (n + 1) c3 (by decide) rfl rfl (by omega) HO3.out HR3.out HB3.out HS3.out
  case round =>
    clear HO3 HR3 HB3 HS3
    obtain ⟨i, a1, M, c1, hi, rfl, rfl, hM, HR⟩ := hrel
    have hcase : i = 0 ∨ i = 1 ∨ i = 2 ∨ i = 3 := by omega
    rcases hcase with rfl | rfl | rfl | rfl
    · have hz := u64_lt (x.a)
      have HM := Lib.hid hM
      have hMb : M ≤ 2000000000 := by omega
      clear hM
      go_wp2_with fail
      rw [u64w]
      refine (put_any a1 M c1 (l ++ insTo x 0) wr (u64 (x.a)) 8 HR.out.1.sl (by omega) hz).mono ?_
      rintro e w2 ⟨v2, rfl, ho2, hb2⟩
      have el : putL (l ++ insTo x 0) (u64 (x.a)) 8 = l ++ insTo x (0 + 1) := by rw [putL8, List.append_assoc]; simp [insTo]
      rw [el] at ho2
      have hlen : (l ++ insTo x (0 + 1)).length = M + 8 := by rw [List.length_append, insTo_len x (by decide)]; have := HM.out; omega
      rw [hlen] at ho2
      obtain ⟨a2, c2, rfl⟩ := ho2.form
      have HO2 := Lib.hid ho2
      have HB2 := Lib.hid hb2
      clear ho2 hb2 el hlen hz
      go_wp2_with fail
      exact ⟨IsR.mk (0 + 1) a2 (M + 8) c2 (by decide) (by go_num) rfl (by have := HM.out; omega) (HO2.out.mono HR.out.2.2.2) (HR.out.2.1.after HB2.out) (HR.out.2.2.1.trans (HB2.out.mono HR.out.2.2.2)) (Nat.le_trans HR.out.2.2.2 HB2.out.size), by simp [intOf]⟩
    · have hz := u64_lt (x.b)
      have HM := Lib.hid hM
      have hMb : M ≤ 2000000000 := by omega
      clear hM
      go_wp2_with fail
      rw [u64w]
      refine (put_any a1 M c1 (l ++ insTo x 1) wr (u64 (x.b)) 8 HR.out.1.sl (by omega) hz).mono ?_
      rintro e w2 ⟨v2, rfl, ho2, hb2⟩
      have el : putL (l ++ insTo x 1) (u64 (x.b)) 8 = l ++ insTo x (1 + 1) := by rw [putL8, List.append_assoc]; simp [insTo]
      rw [el] at ho2
      have hlen : (l ++ insTo x (1 + 1)).length = M + 8 := by rw [List.length_append, insTo_len x (by decide)]; have := HM.out; omega
      rw [hlen] at ho2
      obtain ⟨a2, c2, rfl⟩ := ho2.form
      have HO2 := Lib.hid ho2
      have HB2 := Lib.hid hb2
      clear ho2 hb2 el hlen hz
      go_wp2_with fail
      exact ⟨IsR.mk (1 + 1) a2 (M + 8) c2 (by decide) (by go_num) rfl (by have := HM.out; omega) (HO2.out.mono HR.out.2.2.2) (HR.out.2.1.after HB2.out) (HR.out.2.2.1.trans (HB2.out.mono HR.out.2.2.2)) (Nat.le_trans HR.out.2.2.2 HB2.out.size), by simp [intOf]⟩
    · have hz := u64_lt (x.c)
      have HM := Lib.hid hM
      have hMb : M ≤ 2000000000 := by omega
      clear hM
      go_wp2_with fail
      rw [u64w]
      refine (put_any a1 M c1 (l ++ insTo x 2) wr (u64 (x.c)) 8 HR.out.1.sl (by omega) hz).mono ?_
      rintro e w2 ⟨v2, rfl, ho2, hb2⟩
      have el : putL (l ++ insTo x 2) (u64 (x.c)) 8 = l ++ insTo x (2 + 1) := by rw [putL8, List.append_assoc]; simp [insTo]
      rw [el] at ho2
      have hlen : (l ++ insTo x (2 + 1)).length = M + 8 := by rw [List.length_append, insTo_len x (by decide)]; have := HM.out; omega
      rw [hlen] at ho2
      obtain ⟨a2, c2, rfl⟩ := ho2.form
      have HO2 := Lib.hid ho2
      have HB2 := Lib.hid hb2
      clear ho2 hb2 el hlen hz
      go_wp2_with fail
      exact ⟨IsR.mk (2 + 1) a2 (M + 8) c2 (by decide) (by go_num) rfl (by have := HM.out; omega) (HO2.out.mono HR.out.2.2.2) (HR.out.2.1.after HB2.out) (HR.out.2.2.1.trans (HB2.out.mono HR.out.2.2.2)) (Nat.le_trans HR.out.2.2.2 HB2.out.size), by simp [intOf]⟩
    · have c4 := HR.out.2.1.cell 4
      have HM := Lib.hid hM
      have hMb : M ≤ 2000000000 := by omega
      clear hM
      simp only [List.getElem?_cons_zero, List.getElem?_cons_succ] at c4
      go_wp2_with fail
      refine (text_p a1 M c1 (l ++ insTo x 3) x.t wr HR.out.1.sl (by omega) (by omega)).mono ?_
      rintro e w2 ⟨v2, rfl, ho2, hb2⟩
      go_wp2_with fail
      go_ret
      have el : l ++ insTo x 3 ++ textL x.t = l ++ insL x := by rw [List.append_assoc, insTo_all]
      rw [el] at ho2
      exact ⟨v2, rfl, ho2.mono HR.out.2.2.2, HR.out.2.2.1.trans (hb2.mono HR.out.2.2.2)⟩
end Go.Proofs.YtoddklfblcfoiaaDoor
