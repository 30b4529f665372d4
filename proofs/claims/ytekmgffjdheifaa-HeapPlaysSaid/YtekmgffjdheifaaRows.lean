/-
  No cell of these rows narrows 'for every input' (looked for: loops, veiled, ifaces, maps, wideKeys, modest, calm, conditions, laid).
  DERIVED. THE GIVEN ROWS OF THIS SEAT. 8 by the template 'for every input the law returns true; each argument reads behind the call as it read before'; 0 by the template 'total and deterministic' (their statements: YtekmgffjdheifaaTotals.lean).
  GIVEN WITH THE SEED: the statements are not yours to turn. If you find one false, say at which input.
  Laid BY PROGRAM, IN A SANDBOX (cutbox-rows.mjs): the forced cells as the released guide's own fill.sh prints them over the translation d46807e5ccf22e8f… (all of the seat's roots in one cut). By AI agents, Wed Nov 11 2026. No macro, syntax, notation, axiom, sorry.
-/
import Derived.Test.YtekmgffjdheifaaChecked
import GoSem.Claim
import GoSem.ClaimJoined
import GoSem.ClaimMapViews
import Derived.JoinedTies
import Derived.KernelRfl
namespace Go.Proofs.Ytekmgffjdheifaa
/- THE CELL 'sum', in the pinned program and in every row, IS THE sha256 OF THE DUMP (.gsa) THAT YtekmgffjdheifaaProg.lean LOADS. Nothing in Lean hashes anything: it is a label: what it is worth is what the hold of that sum in a sandbox is worth. -/
noncomputable def Try.pinned : Pinned := { name := "ytekmgffjdheifaa", sum := "d46807e5ccf22e8f6e1190925a24739b51f283c1f32ca8dc4780ed9d879b5abe", checked := Try.checked }
namespace Rows
def none {H : Type} : Left H := { results := [], args := [] }

/-- 'aumbrylaw24.HeapFills': WHATEVER THE INPUT: true; the input reads as it did. -/
def heapFillsSpec : ChangeSpec := { name := "heapFills", fn := fun _ => fun
  | [d1, d2, d3] => { results := [.lit (.bool true)], args := [d1, d2, d3] }
  | _ => none }
def heapFillsRow : OpenClaim := { program := "ytekmgffjdheifaa", sum := "d46807e5ccf22e8f6e1190925a24739b51f283c1f32ca8dc4780ed9d879b5abe", func := "aumbry/aumbrylaw24.HeapFills", spec := "heapFills", unfollowed := true, recurses := true, apart := false }
def HeapFillsSaid : Prop := heapFillsRow.holds Try.pinned (OpenSpec.ofChange heapFillsSpec)

/-- ITS FALSE NEIGHBOUR: 'it returns false'. Refute it at one input. -/
def heapFillsWrong : ChangeSpec := { name := "heapFills", fn := fun _ => fun
  | [d1, d2, d3] => { results := [.lit (.bool false)], args := [d1, d2, d3] }
  | _ => none }
def HeapFillsWrongFalsely : Prop := heapFillsRow.holds Try.pinned (OpenSpec.ofChange heapFillsWrong)

/-- 'aumbrylaw24.HeapCollects': WHATEVER THE INPUT: true; the input reads as it did. -/
def heapCollectsSpec : ChangeSpec := { name := "heapCollects", fn := fun _ => fun
  | [d1, d2] => { results := [.lit (.bool true)], args := [d1, d2] }
  | _ => none }
def heapCollectsRow : OpenClaim := { program := "ytekmgffjdheifaa", sum := "d46807e5ccf22e8f6e1190925a24739b51f283c1f32ca8dc4780ed9d879b5abe", func := "aumbry/aumbrylaw24.HeapCollects", spec := "heapCollects", unfollowed := true, recurses := true, apart := false }
def HeapCollectsSaid : Prop := heapCollectsRow.holds Try.pinned (OpenSpec.ofChange heapCollectsSpec)

/-- ITS FALSE NEIGHBOUR: 'it returns false'. Refute it at one input. -/
def heapCollectsWrong : ChangeSpec := { name := "heapCollects", fn := fun _ => fun
  | [d1, d2] => { results := [.lit (.bool false)], args := [d1, d2] }
  | _ => none }
def HeapCollectsWrongFalsely : Prop := heapCollectsRow.holds Try.pinned (OpenSpec.ofChange heapCollectsWrong)

/-- 'aumbrylaw24.HeapUsed': WHATEVER THE INPUT: true; the input reads as it did. -/
def heapUsedSpec : ChangeSpec := { name := "heapUsed", fn := fun _ => fun
  | [d1, d2] => { results := [.lit (.bool true)], args := [d1, d2] }
  | _ => none }
def heapUsedRow : OpenClaim := { program := "ytekmgffjdheifaa", sum := "d46807e5ccf22e8f6e1190925a24739b51f283c1f32ca8dc4780ed9d879b5abe", func := "aumbry/aumbrylaw24.HeapUsed", spec := "heapUsed", unfollowed := true, recurses := true, apart := false }
def HeapUsedSaid : Prop := heapUsedRow.holds Try.pinned (OpenSpec.ofChange heapUsedSpec)

/-- ITS FALSE NEIGHBOUR: 'it returns false'. Refute it at one input. -/
def heapUsedWrong : ChangeSpec := { name := "heapUsed", fn := fun _ => fun
  | [d1, d2] => { results := [.lit (.bool false)], args := [d1, d2] }
  | _ => none }
def HeapUsedWrongFalsely : Prop := heapUsedRow.holds Try.pinned (OpenSpec.ofChange heapUsedWrong)

/-- 'aumbrylaw24.HeapHandles': WHATEVER THE INPUT: true; the input reads as it did. -/
def heapHandlesSpec : ChangeSpec := { name := "heapHandles", fn := fun _ => fun
  | [d] => { results := [.lit (.bool true)], args := [d] }
  | _ => none }
def heapHandlesRow : OpenClaim := { program := "ytekmgffjdheifaa", sum := "d46807e5ccf22e8f6e1190925a24739b51f283c1f32ca8dc4780ed9d879b5abe", func := "aumbry/aumbrylaw24.HeapHandles", spec := "heapHandles", unfollowed := true, recurses := true, apart := false }
def HeapHandlesSaid : Prop := heapHandlesRow.holds Try.pinned (OpenSpec.ofChange heapHandlesSpec)

/-- ITS FALSE NEIGHBOUR: 'it returns false'. Refute it at one input. -/
def heapHandlesWrong : ChangeSpec := { name := "heapHandles", fn := fun _ => fun
  | [d] => { results := [.lit (.bool false)], args := [d] }
  | _ => none }
def HeapHandlesWrongFalsely : Prop := heapHandlesRow.holds Try.pinned (OpenSpec.ofChange heapHandlesWrong)

/-- 'aumbrylaw24.HeapDirty': WHATEVER THE INPUT: true; the input reads as it did. -/
def heapDirtySpec : ChangeSpec := { name := "heapDirty", fn := fun _ => fun
  | [d] => { results := [.lit (.bool true)], args := [d] }
  | _ => none }
def heapDirtyRow : OpenClaim := { program := "ytekmgffjdheifaa", sum := "d46807e5ccf22e8f6e1190925a24739b51f283c1f32ca8dc4780ed9d879b5abe", func := "aumbry/aumbrylaw24.HeapDirty", spec := "heapDirty", unfollowed := true, recurses := true, apart := false }
def HeapDirtySaid : Prop := heapDirtyRow.holds Try.pinned (OpenSpec.ofChange heapDirtySpec)

/-- ITS FALSE NEIGHBOUR: 'it returns false'. Refute it at one input. -/
def heapDirtyWrong : ChangeSpec := { name := "heapDirty", fn := fun _ => fun
  | [d] => { results := [.lit (.bool false)], args := [d] }
  | _ => none }
def HeapDirtyWrongFalsely : Prop := heapDirtyRow.holds Try.pinned (OpenSpec.ofChange heapDirtyWrong)

/-- 'aumbrylaw24.HeapTies': WHATEVER THE INPUT: true; the input reads as it did. -/
def heapTiesSpec : ChangeSpec := { name := "heapTies", fn := fun _ => fun
  | [d] => { results := [.lit (.bool true)], args := [d] }
  | _ => none }
def heapTiesRow : OpenClaim := { program := "ytekmgffjdheifaa", sum := "d46807e5ccf22e8f6e1190925a24739b51f283c1f32ca8dc4780ed9d879b5abe", func := "aumbry/aumbrylaw24.HeapTies", spec := "heapTies", unfollowed := true, recurses := true, apart := false }
def HeapTiesSaid : Prop := heapTiesRow.holds Try.pinned (OpenSpec.ofChange heapTiesSpec)

/-- ITS FALSE NEIGHBOUR: 'it returns false'. Refute it at one input. -/
def heapTiesWrong : ChangeSpec := { name := "heapTies", fn := fun _ => fun
  | [d] => { results := [.lit (.bool false)], args := [d] }
  | _ => none }
def HeapTiesWrongFalsely : Prop := heapTiesRow.holds Try.pinned (OpenSpec.ofChange heapTiesWrong)

/-- 'aumbrylaw24.HeapPlays': WHATEVER THE INPUT: true; the input reads as it did. -/
def heapPlaysSpec : ChangeSpec := { name := "heapPlays", fn := fun _ => fun
  | [d1, d2] => { results := [.lit (.bool true)], args := [d1, d2] }
  | _ => none }
def heapPlaysRow : OpenClaim := { program := "ytekmgffjdheifaa", sum := "d46807e5ccf22e8f6e1190925a24739b51f283c1f32ca8dc4780ed9d879b5abe", func := "aumbry/aumbrylaw24.HeapPlays", spec := "heapPlays", unfollowed := true, recurses := true, apart := false }
def HeapPlaysSaid : Prop := heapPlaysRow.holds Try.pinned (OpenSpec.ofChange heapPlaysSpec)

/-- ITS FALSE NEIGHBOUR: 'it returns false'. Refute it at one input. -/
def heapPlaysWrong : ChangeSpec := { name := "heapPlays", fn := fun _ => fun
  | [d1, d2] => { results := [.lit (.bool false)], args := [d1, d2] }
  | _ => none }
def HeapPlaysWrongFalsely : Prop := heapPlaysRow.holds Try.pinned (OpenSpec.ofChange heapPlaysWrong)

/-- 'aumbrylaw24.HeapNil': WHATEVER THE INPUT: true; the input reads as it did. -/
def heapNilSpec : ChangeSpec := { name := "heapNil", fn := fun _ => fun
  | [d1, d2] => { results := [.lit (.bool true)], args := [d1, d2] }
  | _ => none }
def heapNilRow : OpenClaim := { program := "ytekmgffjdheifaa", sum := "d46807e5ccf22e8f6e1190925a24739b51f283c1f32ca8dc4780ed9d879b5abe", func := "aumbry/aumbrylaw24.HeapNil", spec := "heapNil", unfollowed := true, recurses := true, apart := false }
def HeapNilSaid : Prop := heapNilRow.holds Try.pinned (OpenSpec.ofChange heapNilSpec)

/-- ITS FALSE NEIGHBOUR: 'it returns false'. Refute it at one input. -/
def heapNilWrong : ChangeSpec := { name := "heapNil", fn := fun _ => fun
  | [d1, d2] => { results := [.lit (.bool false)], args := [d1, d2] }
  | _ => none }
def HeapNilWrongFalsely : Prop := heapNilRow.holds Try.pinned (OpenSpec.ofChange heapNilWrong)

/- THE SECOND FORM. 'bulk': how many values and letters a reading holds, each counted each time it is reached (what is shared counts as often as it is met; a slice's spare places count too). A statement '..UptoSaid' is the law's where the arguments, and the package variables that the reading takes, are together of bulk at most 1048576: NARROWER than '..Said'. Prove '..Said' where nothing that the law and all that it calls make is longer than what came in: it says more and counts as full. Else prove '..UptoSaid'. A law counts once. -/
mutual
def uptoBulk {H : Type} : DataW H → Nat
  | .lit (.string bytes) => bytes.length + 1
  | .lit _ => 1
  | .nil => 1
  | .ptr d => uptoBulk d + 1
  | .slice elems spare => uptoBulkAll elems + uptoBulkAll spare + 1
  | .agg parts => uptoBulkAll parts + 1
  | .iface _ d => uptoBulk d + 1
  | .map entries => uptoBulkEntries entries + 1
  | .held _ => 1
def uptoBulkAll {H : Type} : List (DataW H) → Nat
  | [] => 0
  | d :: r => uptoBulk d + uptoBulkAll r
def uptoBulkEntries {H : Type} : List (Lit × DataW H) → Nat
  | [] => 0
  | x :: r => uptoBulkEntry x + uptoBulkEntries r
def uptoBulkEntry {H : Type} : Lit × DataW H → Nat
  | (.string bytes, d) => bytes.length + uptoBulk d + 1
  | (_, d) => uptoBulk d + 1
 end
def uptoSmall : (H : Type) → List (DataW H) → Bool := fun _ ds => decide (uptoBulkAll ds ≤ 1048576)
def OpenSpec.upto (s : _root_.Go.ChangeSpec) : _root_.Go.OpenSpec := { _root_.Go.OpenSpec.ofChange s with cond := some uptoSmall }

/-- 'aumbrylaw24.HeapFills', WHERE WHAT IT READS IS OF BULK AT MOST 1048576: true; the input reads as it did. -/
def heapFillsUptoRow : OpenClaim := { program := "ytekmgffjdheifaa", sum := "d46807e5ccf22e8f6e1190925a24739b51f283c1f32ca8dc4780ed9d879b5abe", func := "aumbry/aumbrylaw24.HeapFills", spec := "heapFills", unfollowed := true, recurses := true, apart := false, narrowed := true }
def HeapFillsUptoSaid : Prop := heapFillsUptoRow.holds Try.pinned (OpenSpec.upto heapFillsSpec)

/-- 'aumbrylaw24.HeapCollects', WHERE WHAT IT READS IS OF BULK AT MOST 1048576: true; the input reads as it did. -/
def heapCollectsUptoRow : OpenClaim := { program := "ytekmgffjdheifaa", sum := "d46807e5ccf22e8f6e1190925a24739b51f283c1f32ca8dc4780ed9d879b5abe", func := "aumbry/aumbrylaw24.HeapCollects", spec := "heapCollects", unfollowed := true, recurses := true, apart := false, narrowed := true }
def HeapCollectsUptoSaid : Prop := heapCollectsUptoRow.holds Try.pinned (OpenSpec.upto heapCollectsSpec)

/-- 'aumbrylaw24.HeapUsed', WHERE WHAT IT READS IS OF BULK AT MOST 1048576: true; the input reads as it did. -/
def heapUsedUptoRow : OpenClaim := { program := "ytekmgffjdheifaa", sum := "d46807e5ccf22e8f6e1190925a24739b51f283c1f32ca8dc4780ed9d879b5abe", func := "aumbry/aumbrylaw24.HeapUsed", spec := "heapUsed", unfollowed := true, recurses := true, apart := false, narrowed := true }
def HeapUsedUptoSaid : Prop := heapUsedUptoRow.holds Try.pinned (OpenSpec.upto heapUsedSpec)

/-- 'aumbrylaw24.HeapHandles', WHERE WHAT IT READS IS OF BULK AT MOST 1048576: true; the input reads as it did. -/
def heapHandlesUptoRow : OpenClaim := { program := "ytekmgffjdheifaa", sum := "d46807e5ccf22e8f6e1190925a24739b51f283c1f32ca8dc4780ed9d879b5abe", func := "aumbry/aumbrylaw24.HeapHandles", spec := "heapHandles", unfollowed := true, recurses := true, apart := false, narrowed := true }
def HeapHandlesUptoSaid : Prop := heapHandlesUptoRow.holds Try.pinned (OpenSpec.upto heapHandlesSpec)

/-- 'aumbrylaw24.HeapDirty', WHERE WHAT IT READS IS OF BULK AT MOST 1048576: true; the input reads as it did. -/
def heapDirtyUptoRow : OpenClaim := { program := "ytekmgffjdheifaa", sum := "d46807e5ccf22e8f6e1190925a24739b51f283c1f32ca8dc4780ed9d879b5abe", func := "aumbry/aumbrylaw24.HeapDirty", spec := "heapDirty", unfollowed := true, recurses := true, apart := false, narrowed := true }
def HeapDirtyUptoSaid : Prop := heapDirtyUptoRow.holds Try.pinned (OpenSpec.upto heapDirtySpec)

/-- 'aumbrylaw24.HeapTies', WHERE WHAT IT READS IS OF BULK AT MOST 1048576: true; the input reads as it did. -/
def heapTiesUptoRow : OpenClaim := { program := "ytekmgffjdheifaa", sum := "d46807e5ccf22e8f6e1190925a24739b51f283c1f32ca8dc4780ed9d879b5abe", func := "aumbry/aumbrylaw24.HeapTies", spec := "heapTies", unfollowed := true, recurses := true, apart := false, narrowed := true }
def HeapTiesUptoSaid : Prop := heapTiesUptoRow.holds Try.pinned (OpenSpec.upto heapTiesSpec)

/-- 'aumbrylaw24.HeapPlays', WHERE WHAT IT READS IS OF BULK AT MOST 1048576: true; the input reads as it did. -/
def heapPlaysUptoRow : OpenClaim := { program := "ytekmgffjdheifaa", sum := "d46807e5ccf22e8f6e1190925a24739b51f283c1f32ca8dc4780ed9d879b5abe", func := "aumbry/aumbrylaw24.HeapPlays", spec := "heapPlays", unfollowed := true, recurses := true, apart := false, narrowed := true }
def HeapPlaysUptoSaid : Prop := heapPlaysUptoRow.holds Try.pinned (OpenSpec.upto heapPlaysSpec)

/-- 'aumbrylaw24.HeapNil', WHERE WHAT IT READS IS OF BULK AT MOST 1048576: true; the input reads as it did. -/
def heapNilUptoRow : OpenClaim := { program := "ytekmgffjdheifaa", sum := "d46807e5ccf22e8f6e1190925a24739b51f283c1f32ca8dc4780ed9d879b5abe", func := "aumbry/aumbrylaw24.HeapNil", spec := "heapNil", unfollowed := true, recurses := true, apart := false, narrowed := true }
def HeapNilUptoSaid : Prop := heapNilUptoRow.holds Try.pinned (OpenSpec.upto heapNilSpec)

end Rows
end Go.Proofs.Ytekmgffjdheifaa
