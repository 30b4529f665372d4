/-
  No cell of these rows narrows 'for every input' (looked for: loops, veiled, ifaces, maps, wideKeys, modest, calm, conditions, laid).
  DERIVED. THE GIVEN ROWS OF THIS SEAT. 6 by the template 'for every input the law returns true; each argument reads behind the call as it read before'; 0 by the template 'total and deterministic' (their statements: YtljbpflcnicaiaaTotals.lean).
  GIVEN WITH THE SEED: the statements are not yours to turn. If you find one false, say at which input.
  Laid BY PROGRAM, IN A SANDBOX (cutbox-rows.mjs): the forced cells as the released guide's own fill.sh prints them over the translation 871ec778c1ccf4b4… (all of the seat's roots in one cut). By AI agents, Wed Nov 11 2026. No macro, syntax, notation, axiom, sorry.
-/
import Derived.Test.YtljbpflcnicaiaaChecked
import GoSem.Claim
import GoSem.ClaimJoined
import GoSem.ClaimMapViews
import Derived.JoinedTies
import Derived.KernelRfl
namespace Go.Proofs.Ytljbpflcnicaiaa
/- THE CELL 'sum', in the pinned program and in every row, IS THE sha256 OF THE DUMP (.gsa) THAT YtljbpflcnicaiaaProg.lean LOADS. Nothing in Lean hashes anything: it is a label: what it is worth is what the hold of that sum in a sandbox is worth. -/
noncomputable def Try.pinned : Pinned := { name := "ytljbpflcnicaiaa", sum := "871ec778c1ccf4b4a28a342c4f2ed0c26dc86301817c4e1ae336d6496cc48375", checked := Try.checked }
namespace Rows
def none {H : Type} : Left H := { results := [], args := [] }

/-- 'aumbrylaw07.PagesOne': WHATEVER THE INPUT: true; the input reads as it did. -/
def pagesOneSpec : ChangeSpec := { name := "pagesOne", fn := fun _ => fun
  | [d1, d2, d3, d4] => { results := [.lit (.bool true)], args := [d1, d2, d3, d4] }
  | _ => none }
def pagesOneRow : OpenClaim := { program := "ytljbpflcnicaiaa", sum := "871ec778c1ccf4b4a28a342c4f2ed0c26dc86301817c4e1ae336d6496cc48375", func := "aumbry/aumbrylaw07.PagesOne", spec := "pagesOne", unfollowed := true, recurses := true, apart := false }
def PagesOneSaid : Prop := pagesOneRow.holds Try.pinned (OpenSpec.ofChange pagesOneSpec)

/-- ITS FALSE NEIGHBOUR: 'it returns false'. Refute it at one input. -/
def pagesOneWrong : ChangeSpec := { name := "pagesOne", fn := fun _ => fun
  | [d1, d2, d3, d4] => { results := [.lit (.bool false)], args := [d1, d2, d3, d4] }
  | _ => none }
def PagesOneWrongFalsely : Prop := pagesOneRow.holds Try.pinned (OpenSpec.ofChange pagesOneWrong)

/-- 'aumbrylaw07.PagesTurned': WHATEVER THE INPUT: true; the input reads as it did. -/
def pagesTurnedSpec : ChangeSpec := { name := "pagesTurned", fn := fun _ => fun
  | [d1, d2] => { results := [.lit (.bool true)], args := [d1, d2] }
  | _ => none }
def pagesTurnedRow : OpenClaim := { program := "ytljbpflcnicaiaa", sum := "871ec778c1ccf4b4a28a342c4f2ed0c26dc86301817c4e1ae336d6496cc48375", func := "aumbry/aumbrylaw07.PagesTurned", spec := "pagesTurned", unfollowed := true, recurses := true, apart := false }
def PagesTurnedSaid : Prop := pagesTurnedRow.holds Try.pinned (OpenSpec.ofChange pagesTurnedSpec)

/-- ITS FALSE NEIGHBOUR: 'it returns false'. Refute it at one input. -/
def pagesTurnedWrong : ChangeSpec := { name := "pagesTurned", fn := fun _ => fun
  | [d1, d2] => { results := [.lit (.bool false)], args := [d1, d2] }
  | _ => none }
def PagesTurnedWrongFalsely : Prop := pagesTurnedRow.holds Try.pinned (OpenSpec.ofChange pagesTurnedWrong)

/-- 'aumbrylaw07.PagesBack': WHATEVER THE INPUT: true; the input reads as it did. -/
def pagesBackSpec : ChangeSpec := { name := "pagesBack", fn := fun _ => fun
  | [d1, d2, d3] => { results := [.lit (.bool true)], args := [d1, d2, d3] }
  | _ => none }
def pagesBackRow : OpenClaim := { program := "ytljbpflcnicaiaa", sum := "871ec778c1ccf4b4a28a342c4f2ed0c26dc86301817c4e1ae336d6496cc48375", func := "aumbry/aumbrylaw07.PagesBack", spec := "pagesBack", unfollowed := true, recurses := true, apart := false }
def PagesBackSaid : Prop := pagesBackRow.holds Try.pinned (OpenSpec.ofChange pagesBackSpec)

/-- ITS FALSE NEIGHBOUR: 'it returns false'. Refute it at one input. -/
def pagesBackWrong : ChangeSpec := { name := "pagesBack", fn := fun _ => fun
  | [d1, d2, d3] => { results := [.lit (.bool false)], args := [d1, d2, d3] }
  | _ => none }
def PagesBackWrongFalsely : Prop := pagesBackRow.holds Try.pinned (OpenSpec.ofChange pagesBackWrong)

/-- 'aumbrylaw07.PagesRising': WHATEVER THE INPUT: true; the input reads as it did. -/
def pagesRisingSpec : ChangeSpec := { name := "pagesRising", fn := fun _ => fun
  | [d] => { results := [.lit (.bool true)], args := [d] }
  | _ => none }
def pagesRisingRow : OpenClaim := { program := "ytljbpflcnicaiaa", sum := "871ec778c1ccf4b4a28a342c4f2ed0c26dc86301817c4e1ae336d6496cc48375", func := "aumbry/aumbrylaw07.PagesRising", spec := "pagesRising", unfollowed := true, recurses := true, apart := false }
def PagesRisingSaid : Prop := pagesRisingRow.holds Try.pinned (OpenSpec.ofChange pagesRisingSpec)

/-- ITS FALSE NEIGHBOUR: 'it returns false'. Refute it at one input. -/
def pagesRisingWrong : ChangeSpec := { name := "pagesRising", fn := fun _ => fun
  | [d] => { results := [.lit (.bool false)], args := [d] }
  | _ => none }
def PagesRisingWrongFalsely : Prop := pagesRisingRow.holds Try.pinned (OpenSpec.ofChange pagesRisingWrong)

/-- 'aumbrylaw07.PagesPlays': WHATEVER THE INPUT: true; the input reads as it did. -/
def pagesPlaysSpec : ChangeSpec := { name := "pagesPlays", fn := fun _ => fun
  | [d1, d2] => { results := [.lit (.bool true)], args := [d1, d2] }
  | _ => none }
def pagesPlaysRow : OpenClaim := { program := "ytljbpflcnicaiaa", sum := "871ec778c1ccf4b4a28a342c4f2ed0c26dc86301817c4e1ae336d6496cc48375", func := "aumbry/aumbrylaw07.PagesPlays", spec := "pagesPlays", unfollowed := true, recurses := true, apart := false }
def PagesPlaysSaid : Prop := pagesPlaysRow.holds Try.pinned (OpenSpec.ofChange pagesPlaysSpec)

/-- ITS FALSE NEIGHBOUR: 'it returns false'. Refute it at one input. -/
def pagesPlaysWrong : ChangeSpec := { name := "pagesPlays", fn := fun _ => fun
  | [d1, d2] => { results := [.lit (.bool false)], args := [d1, d2] }
  | _ => none }
def PagesPlaysWrongFalsely : Prop := pagesPlaysRow.holds Try.pinned (OpenSpec.ofChange pagesPlaysWrong)

/-- 'aumbrylaw07.PagesNil': WHATEVER THE INPUT: true; the input reads as it did. -/
def pagesNilSpec : ChangeSpec := { name := "pagesNil", fn := fun _ => fun
  | [d1, d2] => { results := [.lit (.bool true)], args := [d1, d2] }
  | _ => none }
def pagesNilRow : OpenClaim := { program := "ytljbpflcnicaiaa", sum := "871ec778c1ccf4b4a28a342c4f2ed0c26dc86301817c4e1ae336d6496cc48375", func := "aumbry/aumbrylaw07.PagesNil", spec := "pagesNil", unfollowed := true, recurses := true, apart := false }
def PagesNilSaid : Prop := pagesNilRow.holds Try.pinned (OpenSpec.ofChange pagesNilSpec)

/-- ITS FALSE NEIGHBOUR: 'it returns false'. Refute it at one input. -/
def pagesNilWrong : ChangeSpec := { name := "pagesNil", fn := fun _ => fun
  | [d1, d2] => { results := [.lit (.bool false)], args := [d1, d2] }
  | _ => none }
def PagesNilWrongFalsely : Prop := pagesNilRow.holds Try.pinned (OpenSpec.ofChange pagesNilWrong)

/- THE SECOND FORM. 'bulk': how many values and letters a reading holds, each counted each time it is reached (what is shared counts as often as it is met; a slice's spare places count too). A statement '..UptoSaid' is the law's where the arguments, and the package variables that the reading takes, are together of bulk at most 1048576: NARROWER than '..Said'. Prove '..Said' where nothing that the law and all that it calls make is longer than what came in: it says more and counts as full. Else prove '..UptoSaid'. A law counts once. -/
mutual
def uptoBulk {H : Type} : DataW H → Nat
  | .lit (.string bytes) => bytes.length + 1
  | .lit _ => 1
  | .nil => 1
  | .ptr d => uptoBulk d + 1
  | .slice elems spare => uptoBulkAll elems + uptoBulkAll spare + 1
  | .agg parts => uptoBulkAll parts + 1
  | .iface _ d => uptoBulk d + 1
  | .map entries => uptoBulkEntries entries + 1
  | .held _ => 1
def uptoBulkAll {H : Type} : List (DataW H) → Nat
  | [] => 0
  | d :: r => uptoBulk d + uptoBulkAll r
def uptoBulkEntries {H : Type} : List (Lit × DataW H) → Nat
  | [] => 0
  | x :: r => uptoBulkEntry x + uptoBulkEntries r
def uptoBulkEntry {H : Type} : Lit × DataW H → Nat
  | (.string bytes, d) => bytes.length + uptoBulk d + 1
  | (_, d) => uptoBulk d + 1
 end
def uptoSmall : (H : Type) → List (DataW H) → Bool := fun _ ds => decide (uptoBulkAll ds ≤ 1048576)
def OpenSpec.upto (s : _root_.Go.ChangeSpec) : _root_.Go.OpenSpec := { _root_.Go.OpenSpec.ofChange s with cond := some uptoSmall }

/-- 'aumbrylaw07.PagesOne', WHERE WHAT IT READS IS OF BULK AT MOST 1048576: true; the input reads as it did. -/
def pagesOneUptoRow : OpenClaim := { program := "ytljbpflcnicaiaa", sum := "871ec778c1ccf4b4a28a342c4f2ed0c26dc86301817c4e1ae336d6496cc48375", func := "aumbry/aumbrylaw07.PagesOne", spec := "pagesOne", unfollowed := true, recurses := true, apart := false, narrowed := true }
def PagesOneUptoSaid : Prop := pagesOneUptoRow.holds Try.pinned (OpenSpec.upto pagesOneSpec)

/-- 'aumbrylaw07.PagesTurned', WHERE WHAT IT READS IS OF BULK AT MOST 1048576: true; the input reads as it did. -/
def pagesTurnedUptoRow : OpenClaim := { program := "ytljbpflcnicaiaa", sum := "871ec778c1ccf4b4a28a342c4f2ed0c26dc86301817c4e1ae336d6496cc48375", func := "aumbry/aumbrylaw07.PagesTurned", spec := "pagesTurned", unfollowed := true, recurses := true, apart := false, narrowed := true }
def PagesTurnedUptoSaid : Prop := pagesTurnedUptoRow.holds Try.pinned (OpenSpec.upto pagesTurnedSpec)

/-- 'aumbrylaw07.PagesBack', WHERE WHAT IT READS IS OF BULK AT MOST 1048576: true; the input reads as it did. -/
def pagesBackUptoRow : OpenClaim := { program := "ytljbpflcnicaiaa", sum := "871ec778c1ccf4b4a28a342c4f2ed0c26dc86301817c4e1ae336d6496cc48375", func := "aumbry/aumbrylaw07.PagesBack", spec := "pagesBack", unfollowed := true, recurses := true, apart := false, narrowed := true }
def PagesBackUptoSaid : Prop := pagesBackUptoRow.holds Try.pinned (OpenSpec.upto pagesBackSpec)

/-- 'aumbrylaw07.PagesRising', WHERE WHAT IT READS IS OF BULK AT MOST 1048576: true; the input reads as it did. -/
def pagesRisingUptoRow : OpenClaim := { program := "ytljbpflcnicaiaa", sum := "871ec778c1ccf4b4a28a342c4f2ed0c26dc86301817c4e1ae336d6496cc48375", func := "aumbry/aumbrylaw07.PagesRising", spec := "pagesRising", unfollowed := true, recurses := true, apart := false, narrowed := true }
def PagesRisingUptoSaid : Prop := pagesRisingUptoRow.holds Try.pinned (OpenSpec.upto pagesRisingSpec)

/-- 'aumbrylaw07.PagesPlays', WHERE WHAT IT READS IS OF BULK AT MOST 1048576: true; the input reads as it did. -/
def pagesPlaysUptoRow : OpenClaim := { program := "ytljbpflcnicaiaa", sum := "871ec778c1ccf4b4a28a342c4f2ed0c26dc86301817c4e1ae336d6496cc48375", func := "aumbry/aumbrylaw07.PagesPlays", spec := "pagesPlays", unfollowed := true, recurses := true, apart := false, narrowed := true }
def PagesPlaysUptoSaid : Prop := pagesPlaysUptoRow.holds Try.pinned (OpenSpec.upto pagesPlaysSpec)

/-- 'aumbrylaw07.PagesNil', WHERE WHAT IT READS IS OF BULK AT MOST 1048576: true; the input reads as it did. -/
def pagesNilUptoRow : OpenClaim := { program := "ytljbpflcnicaiaa", sum := "871ec778c1ccf4b4a28a342c4f2ed0c26dc86301817c4e1ae336d6496cc48375", func := "aumbry/aumbrylaw07.PagesNil", spec := "pagesNil", unfollowed := true, recurses := true, apart := false, narrowed := true }
def PagesNilUptoSaid : Prop := pagesNilUptoRow.holds Try.pinned (OpenSpec.upto pagesNilSpec)

end Rows
end Go.Proofs.Ytljbpflcnicaiaa
