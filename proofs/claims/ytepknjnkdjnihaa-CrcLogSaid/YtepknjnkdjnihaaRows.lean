/-
  No cell of these rows narrows 'for every input' (looked for: loops, veiled, ifaces, maps, wideKeys, modest, calm, conditions, laid).
  DERIVED. THE GIVEN ROWS OF THIS SEAT. 6 by the template 'for every input the law returns true; each argument reads behind the call as it read before'; 0 by the template 'total and deterministic' (their statements: YtepknjnkdjnihaaTotals.lean).
  GIVEN WITH THE SEED: the statements are not yours to turn. If you find one false, say at which input.
  Laid BY PROGRAM, IN A SANDBOX (cutbox-rows.mjs): the forced cells as the released guide's own fill.sh prints them over the translation a0cc36928f40a953… (all of the seat's roots in one cut). By AI agents, Wed Nov 11 2026. No macro, syntax, notation, axiom, sorry.
-/
import Derived.Test.YtepknjnkdjnihaaChecked
import GoSem.Claim
import GoSem.ClaimJoined
import GoSem.ClaimMapViews
import Derived.JoinedTies
import Derived.KernelRfl
namespace Go.Proofs.Ytepknjnkdjnihaa
/- THE CELL 'sum', in the pinned program and in every row, IS THE sha256 OF THE DUMP (.gsa) THAT YtepknjnkdjnihaaProg.lean LOADS. Nothing in Lean hashes anything: it is a label: what it is worth is what the hold of that sum in a sandbox is worth. -/
noncomputable def Try.pinned : Pinned := { name := "ytepknjnkdjnihaa", sum := "a0cc36928f40a9532db3a878f4405a00c5f460a777595a00a06fb78e1de4c467", checked := Try.checked }
namespace Rows
def none {H : Type} : Left H := { results := [], args := [] }

/-- 'aumbrylaw02.CrcDivides': WHATEVER THE INPUT: true; the input reads as it did. -/
def crcDividesSpec : ChangeSpec := { name := "crcDivides", fn := fun _ => fun
  | [d1, d2] => { results := [.lit (.bool true)], args := [d1, d2] }
  | _ => none }
def crcDividesRow : OpenClaim := { program := "ytepknjnkdjnihaa", sum := "a0cc36928f40a9532db3a878f4405a00c5f460a777595a00a06fb78e1de4c467", func := "aumbry/aumbrylaw02.CrcDivides", spec := "crcDivides", apart := false }
def CrcDividesSaid : Prop := crcDividesRow.holds Try.pinned (OpenSpec.ofChange crcDividesSpec)

/-- ITS FALSE NEIGHBOUR: 'it returns false'. Refute it at one input. -/
def crcDividesWrong : ChangeSpec := { name := "crcDivides", fn := fun _ => fun
  | [d1, d2] => { results := [.lit (.bool false)], args := [d1, d2] }
  | _ => none }
def CrcDividesWrongFalsely : Prop := crcDividesRow.holds Try.pinned (OpenSpec.ofChange crcDividesWrong)

/-- 'aumbrylaw02.CrcSeals': WHATEVER THE INPUT: true; the input reads as it did. -/
def crcSealsSpec : ChangeSpec := { name := "crcSeals", fn := fun _ => fun
  | [d1, d2, d3] => { results := [.lit (.bool true)], args := [d1, d2, d3] }
  | _ => none }
def crcSealsRow : OpenClaim := { program := "ytepknjnkdjnihaa", sum := "a0cc36928f40a9532db3a878f4405a00c5f460a777595a00a06fb78e1de4c467", func := "aumbry/aumbrylaw02.CrcSeals", spec := "crcSeals", apart := false }
def CrcSealsSaid : Prop := crcSealsRow.holds Try.pinned (OpenSpec.ofChange crcSealsSpec)

/-- ITS FALSE NEIGHBOUR: 'it returns false'. Refute it at one input. -/
def crcSealsWrong : ChangeSpec := { name := "crcSeals", fn := fun _ => fun
  | [d1, d2, d3] => { results := [.lit (.bool false)], args := [d1, d2, d3] }
  | _ => none }
def CrcSealsWrongFalsely : Prop := crcSealsRow.holds Try.pinned (OpenSpec.ofChange crcSealsWrong)

/-- 'aumbrylaw02.CrcTwo': WHATEVER THE INPUT: true; the input reads as it did. -/
def crcTwoSpec : ChangeSpec := { name := "crcTwo", fn := fun _ => fun
  | [d1, d2, d3] => { results := [.lit (.bool true)], args := [d1, d2, d3] }
  | _ => none }
def crcTwoRow : OpenClaim := { program := "ytepknjnkdjnihaa", sum := "a0cc36928f40a9532db3a878f4405a00c5f460a777595a00a06fb78e1de4c467", func := "aumbry/aumbrylaw02.CrcTwo", spec := "crcTwo", apart := false }
def CrcTwoSaid : Prop := crcTwoRow.holds Try.pinned (OpenSpec.ofChange crcTwoSpec)

/-- ITS FALSE NEIGHBOUR: 'it returns false'. Refute it at one input. -/
def crcTwoWrong : ChangeSpec := { name := "crcTwo", fn := fun _ => fun
  | [d1, d2, d3] => { results := [.lit (.bool false)], args := [d1, d2, d3] }
  | _ => none }
def CrcTwoWrongFalsely : Prop := crcTwoRow.holds Try.pinned (OpenSpec.ofChange crcTwoWrong)

/-- 'aumbrylaw02.CrcBlank': WHATEVER THE INPUT: true; the input reads as it did. -/
def crcBlankSpec : ChangeSpec := { name := "crcBlank", fn := fun _ => fun
  | [d1, d2, d3] => { results := [.lit (.bool true)], args := [d1, d2, d3] }
  | _ => none }
def crcBlankRow : OpenClaim := { program := "ytepknjnkdjnihaa", sum := "a0cc36928f40a9532db3a878f4405a00c5f460a777595a00a06fb78e1de4c467", func := "aumbry/aumbrylaw02.CrcBlank", spec := "crcBlank", apart := false }
def CrcBlankSaid : Prop := crcBlankRow.holds Try.pinned (OpenSpec.ofChange crcBlankSpec)

/-- ITS FALSE NEIGHBOUR: 'it returns false'. Refute it at one input. -/
def crcBlankWrong : ChangeSpec := { name := "crcBlank", fn := fun _ => fun
  | [d1, d2, d3] => { results := [.lit (.bool false)], args := [d1, d2, d3] }
  | _ => none }
def CrcBlankWrongFalsely : Prop := crcBlankRow.holds Try.pinned (OpenSpec.ofChange crcBlankWrong)

/-- 'aumbrylaw02.CrcLog': WHATEVER THE INPUT: true; the input reads as it did. -/
def crcLogSpec : ChangeSpec := { name := "crcLog", fn := fun _ => fun
  | [d] => { results := [.lit (.bool true)], args := [d] }
  | _ => none }
def crcLogRow : OpenClaim := { program := "ytepknjnkdjnihaa", sum := "a0cc36928f40a9532db3a878f4405a00c5f460a777595a00a06fb78e1de4c467", func := "aumbry/aumbrylaw02.CrcLog", spec := "crcLog", apart := false }
def CrcLogSaid : Prop := crcLogRow.holds Try.pinned (OpenSpec.ofChange crcLogSpec)

/-- ITS FALSE NEIGHBOUR: 'it returns false'. Refute it at one input. -/
def crcLogWrong : ChangeSpec := { name := "crcLog", fn := fun _ => fun
  | [d] => { results := [.lit (.bool false)], args := [d] }
  | _ => none }
def CrcLogWrongFalsely : Prop := crcLogRow.holds Try.pinned (OpenSpec.ofChange crcLogWrong)

/-- 'aumbrylaw02.CrcPlace': WHATEVER THE INPUT: true; the input reads as it did. -/
def crcPlaceSpec : ChangeSpec := { name := "crcPlace", fn := fun _ => fun
  | [d1, d2, d3, d4] => { results := [.lit (.bool true)], args := [d1, d2, d3, d4] }
  | _ => none }
def crcPlaceRow : OpenClaim := { program := "ytepknjnkdjnihaa", sum := "a0cc36928f40a9532db3a878f4405a00c5f460a777595a00a06fb78e1de4c467", func := "aumbry/aumbrylaw02.CrcPlace", spec := "crcPlace", apart := false }
def CrcPlaceSaid : Prop := crcPlaceRow.holds Try.pinned (OpenSpec.ofChange crcPlaceSpec)

/-- ITS FALSE NEIGHBOUR: 'it returns false'. Refute it at one input. -/
def crcPlaceWrong : ChangeSpec := { name := "crcPlace", fn := fun _ => fun
  | [d1, d2, d3, d4] => { results := [.lit (.bool false)], args := [d1, d2, d3, d4] }
  | _ => none }
def CrcPlaceWrongFalsely : Prop := crcPlaceRow.holds Try.pinned (OpenSpec.ofChange crcPlaceWrong)

/- THE SECOND FORM. 'bulk': how many values and letters a reading holds, each counted each time it is reached (what is shared counts as often as it is met; a slice's spare places count too). A statement '..UptoSaid' is the law's where the arguments, and the package variables that the reading takes, are together of bulk at most 1048576: NARROWER than '..Said'. Prove '..Said' where nothing that the law and all that it calls make is longer than what came in: it says more and counts as full. Else prove '..UptoSaid'. A law counts once. -/
mutual
def uptoBulk {H : Type} : DataW H → Nat
  | .lit (.string bytes) => bytes.length + 1
  | .lit _ => 1
  | .nil => 1
  | .ptr d => uptoBulk d + 1
  | .slice elems spare => uptoBulkAll elems + uptoBulkAll spare + 1
  | .agg parts => uptoBulkAll parts + 1
  | .iface _ d => uptoBulk d + 1
  | .map entries => uptoBulkEntries entries + 1
  | .held _ => 1
def uptoBulkAll {H : Type} : List (DataW H) → Nat
  | [] => 0
  | d :: r => uptoBulk d + uptoBulkAll r
def uptoBulkEntries {H : Type} : List (Lit × DataW H) → Nat
  | [] => 0
  | x :: r => uptoBulkEntry x + uptoBulkEntries r
def uptoBulkEntry {H : Type} : Lit × DataW H → Nat
  | (.string bytes, d) => bytes.length + uptoBulk d + 1
  | (_, d) => uptoBulk d + 1
 end
def uptoSmall : (H : Type) → List (DataW H) → Bool := fun _ ds => decide (uptoBulkAll ds ≤ 1048576)
def OpenSpec.upto (s : _root_.Go.ChangeSpec) : _root_.Go.OpenSpec := { _root_.Go.OpenSpec.ofChange s with cond := some uptoSmall }

/-- 'aumbrylaw02.CrcDivides', WHERE WHAT IT READS IS OF BULK AT MOST 1048576: true; the input reads as it did. -/
def crcDividesUptoRow : OpenClaim := { program := "ytepknjnkdjnihaa", sum := "a0cc36928f40a9532db3a878f4405a00c5f460a777595a00a06fb78e1de4c467", func := "aumbry/aumbrylaw02.CrcDivides", spec := "crcDivides", apart := false, narrowed := true }
def CrcDividesUptoSaid : Prop := crcDividesUptoRow.holds Try.pinned (OpenSpec.upto crcDividesSpec)

/-- 'aumbrylaw02.CrcSeals', WHERE WHAT IT READS IS OF BULK AT MOST 1048576: true; the input reads as it did. -/
def crcSealsUptoRow : OpenClaim := { program := "ytepknjnkdjnihaa", sum := "a0cc36928f40a9532db3a878f4405a00c5f460a777595a00a06fb78e1de4c467", func := "aumbry/aumbrylaw02.CrcSeals", spec := "crcSeals", apart := false, narrowed := true }
def CrcSealsUptoSaid : Prop := crcSealsUptoRow.holds Try.pinned (OpenSpec.upto crcSealsSpec)

/-- 'aumbrylaw02.CrcTwo', WHERE WHAT IT READS IS OF BULK AT MOST 1048576: true; the input reads as it did. -/
def crcTwoUptoRow : OpenClaim := { program := "ytepknjnkdjnihaa", sum := "a0cc36928f40a9532db3a878f4405a00c5f460a777595a00a06fb78e1de4c467", func := "aumbry/aumbrylaw02.CrcTwo", spec := "crcTwo", apart := false, narrowed := true }
def CrcTwoUptoSaid : Prop := crcTwoUptoRow.holds Try.pinned (OpenSpec.upto crcTwoSpec)

/-- 'aumbrylaw02.CrcBlank', WHERE WHAT IT READS IS OF BULK AT MOST 1048576: true; the input reads as it did. -/
def crcBlankUptoRow : OpenClaim := { program := "ytepknjnkdjnihaa", sum := "a0cc36928f40a9532db3a878f4405a00c5f460a777595a00a06fb78e1de4c467", func := "aumbry/aumbrylaw02.CrcBlank", spec := "crcBlank", apart := false, narrowed := true }
def CrcBlankUptoSaid : Prop := crcBlankUptoRow.holds Try.pinned (OpenSpec.upto crcBlankSpec)

/-- 'aumbrylaw02.CrcLog', WHERE WHAT IT READS IS OF BULK AT MOST 1048576: true; the input reads as it did. -/
def crcLogUptoRow : OpenClaim := { program := "ytepknjnkdjnihaa", sum := "a0cc36928f40a9532db3a878f4405a00c5f460a777595a00a06fb78e1de4c467", func := "aumbry/aumbrylaw02.CrcLog", spec := "crcLog", apart := false, narrowed := true }
def CrcLogUptoSaid : Prop := crcLogUptoRow.holds Try.pinned (OpenSpec.upto crcLogSpec)

/-- 'aumbrylaw02.CrcPlace', WHERE WHAT IT READS IS OF BULK AT MOST 1048576: true; the input reads as it did. -/
def crcPlaceUptoRow : OpenClaim := { program := "ytepknjnkdjnihaa", sum := "a0cc36928f40a9532db3a878f4405a00c5f460a777595a00a06fb78e1de4c467", func := "aumbry/aumbrylaw02.CrcPlace", spec := "crcPlace", apart := false, narrowed := true }
def CrcPlaceUptoSaid : Prop := crcPlaceUptoRow.holds Try.pinned (OpenSpec.upto crcPlaceSpec)

end Rows
end Go.Proofs.Ytepknjnkdjnihaa
