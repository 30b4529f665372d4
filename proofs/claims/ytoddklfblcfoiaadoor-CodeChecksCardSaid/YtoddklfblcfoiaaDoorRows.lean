/-
  NARROWER THAN 'FOR EVERY INPUT', by the rows' own cells (each row's printed sentence says how): CodeBytes: laid · CodeChecks: laid · CodeTakes: laid · CodeBack: laid · CodeGoes: laid · CodeSpoilt: laid · CodeHeights: laid.
  DERIVED. THE GIVEN ROWS OF THIS SEAT. 7 by the template 'for every input the law returns true; each argument reads behind the call as it read before'; 0 by the template 'total and deterministic' (their statements: YtoddklfblcfoiaaDoorTotals.lean).
  GIVEN WITH THE SEED: the statements are not yours to turn. If you find one false, say at which input.
  Laid BY PROGRAM, IN A SANDBOX (cutbox-rows.mjs): the forced cells as the released guide's own fill.sh prints them over the translation abe1fa834ac7ab12… (all of the seat's roots in one cut). By AI agents, Wed Nov 11 2026. No macro, syntax, notation, axiom, sorry.
-/
import Derived.Test.YtoddklfblcfoiaaDoorChecked
import GoSem.Claim
import GoSem.ClaimJoined
import GoSem.ClaimMapViews
import Derived.JoinedTies
import Derived.KernelRfl
namespace Go.Proofs.YtoddklfblcfoiaaDoor
/- THE CELL 'sum', in the pinned program and in every row, IS THE sha256 OF THE DUMP (.gsa) THAT YtoddklfblcfoiaaDoorProg.lean LOADS. Nothing in Lean hashes anything: it is a label: what it is worth is what the hold of that sum in a sandbox is worth. -/
noncomputable def Tryd.pinned : Pinned := { name := "ytoddklfblcfoiaadoor", sum := "abe1fa834ac7ab128bb2e6eaf2a46d20a8cc13747a40f6ef49eb52188ac63856", checked := Tryd.checked }
namespace Rows
def none {H : Type} : Left H := { results := [], args := [] }

/- WHAT THE LISTED PACKAGE-LEVEL VARIABLES READ AS WHEN THE CALL BEGINS. Each datum BY PROGRAM (the guide's laid-datum.mjs) off the statement by which the dump's own 'gosem.cut.vars' lays the variable. In a bare row this is a premise. The card (YtoddklfblcfoiaaDoorCards.lean) ties it to the program's text. -/
def laid_aumbry_code_prims {H : Type} : DataW H := .map [(.int .i64 1, .slice [.lit (.string [112, 114, 105, 110, 116]), .lit (.string [105, 116, 111, 115]), .lit (.string [115, 105, 122, 101]), .lit (.string [110, 111, 116]), .lit (.string [114, 101, 102]), .lit (.string [108, 101, 110]), .lit (.string [99, 111, 109, 109, 105, 116]), .lit (.string [97, 98, 111, 114, 116]), .lit (.string [126]), .lit (.string [33])] []), (.int .i64 2, .slice [.lit (.string [115, 97, 109, 101]), .lit (.string [97, 114, 114, 97, 121]), .lit (.string [103, 101, 116]), .lit (.string [43]), .lit (.string [45]), .lit (.string [42]), .lit (.string [100, 105, 118]), .lit (.string [109, 111, 100]), .lit (.string [60]), .lit (.string [60, 61]), .lit (.string [62]), .lit (.string [62, 61]), .lit (.string [61]), .lit (.string [60, 62]), .lit (.string [94]), .lit (.string [58, 61])] []), (.int .i64 3, .slice [.lit (.string [112, 117, 116])] [])]

/-- 'aumbrylaw22.CodeBytes': WHATEVER THE INPUT: true; the input reads as it did. -/
def codeBytesSpec : ChangeSpec := { name := "codeBytes", fn := fun _ => fun
  | [d1, d2] => { results := [.lit (.bool true)], args := [d1, d2] }
  | _ => none }
def codeBytesRow : OpenClaim := { program := "ytoddklfblcfoiaadoor", sum := "abe1fa834ac7ab128bb2e6eaf2a46d20a8cc13747a40f6ef49eb52188ac63856", func := "aumbry/aumbrylaw22.CodeBytes", spec := "codeBytes", unfollowed := true, recurses := true, named := ["aumbry/code.prims"], apart := false, laid := [("aumbry/code.prims", laid_aumbry_code_prims)] }
def CodeBytesSaid : Prop := codeBytesRow.holds Tryd.pinned (OpenSpec.ofChange codeBytesSpec)

/-- ITS FALSE NEIGHBOUR: 'it returns false'. Refute it at one input. -/
def codeBytesWrong : ChangeSpec := { name := "codeBytes", fn := fun _ => fun
  | [d1, d2] => { results := [.lit (.bool false)], args := [d1, d2] }
  | _ => none }
def CodeBytesWrongFalsely : Prop := codeBytesRow.holds Tryd.pinned (OpenSpec.ofChange codeBytesWrong)

/-- 'aumbrylaw22.CodeChecks': WHATEVER THE INPUT: true; the input reads as it did. -/
def codeChecksSpec : ChangeSpec := { name := "codeChecks", fn := fun _ => fun
  | [d] => { results := [.lit (.bool true)], args := [d] }
  | _ => none }
def codeChecksRow : OpenClaim := { program := "ytoddklfblcfoiaadoor", sum := "abe1fa834ac7ab128bb2e6eaf2a46d20a8cc13747a40f6ef49eb52188ac63856", func := "aumbry/aumbrylaw22.CodeChecks", spec := "codeChecks", unfollowed := true, recurses := true, named := ["aumbry/code.prims"], apart := false, laid := [("aumbry/code.prims", laid_aumbry_code_prims)] }
def CodeChecksSaid : Prop := codeChecksRow.holds Tryd.pinned (OpenSpec.ofChange codeChecksSpec)

/-- ITS FALSE NEIGHBOUR: 'it returns false'. Refute it at one input. -/
def codeChecksWrong : ChangeSpec := { name := "codeChecks", fn := fun _ => fun
  | [d] => { results := [.lit (.bool false)], args := [d] }
  | _ => none }
def CodeChecksWrongFalsely : Prop := codeChecksRow.holds Tryd.pinned (OpenSpec.ofChange codeChecksWrong)

/-- 'aumbrylaw22.CodeTakes': WHATEVER THE INPUT: true; the input reads as it did. -/
def codeTakesSpec : ChangeSpec := { name := "codeTakes", fn := fun _ => fun
  | [d] => { results := [.lit (.bool true)], args := [d] }
  | _ => none }
def codeTakesRow : OpenClaim := { program := "ytoddklfblcfoiaadoor", sum := "abe1fa834ac7ab128bb2e6eaf2a46d20a8cc13747a40f6ef49eb52188ac63856", func := "aumbry/aumbrylaw22.CodeTakes", spec := "codeTakes", unfollowed := true, recurses := true, named := ["aumbry/code.prims"], apart := false, laid := [("aumbry/code.prims", laid_aumbry_code_prims)] }
def CodeTakesSaid : Prop := codeTakesRow.holds Tryd.pinned (OpenSpec.ofChange codeTakesSpec)

/-- ITS FALSE NEIGHBOUR: 'it returns false'. Refute it at one input. -/
def codeTakesWrong : ChangeSpec := { name := "codeTakes", fn := fun _ => fun
  | [d] => { results := [.lit (.bool false)], args := [d] }
  | _ => none }
def CodeTakesWrongFalsely : Prop := codeTakesRow.holds Tryd.pinned (OpenSpec.ofChange codeTakesWrong)

/-- 'aumbrylaw22.CodeBack': WHATEVER THE INPUT: true; the input reads as it did. -/
def codeBackSpec : ChangeSpec := { name := "codeBack", fn := fun _ => fun
  | [d1, d2, d3] => { results := [.lit (.bool true)], args := [d1, d2, d3] }
  | _ => none }
def codeBackRow : OpenClaim := { program := "ytoddklfblcfoiaadoor", sum := "abe1fa834ac7ab128bb2e6eaf2a46d20a8cc13747a40f6ef49eb52188ac63856", func := "aumbry/aumbrylaw22.CodeBack", spec := "codeBack", unfollowed := true, recurses := true, named := ["aumbry/code.prims"], apart := false, laid := [("aumbry/code.prims", laid_aumbry_code_prims)] }
def CodeBackSaid : Prop := codeBackRow.holds Tryd.pinned (OpenSpec.ofChange codeBackSpec)

/-- ITS FALSE NEIGHBOUR: 'it returns false'. Refute it at one input. -/
def codeBackWrong : ChangeSpec := { name := "codeBack", fn := fun _ => fun
  | [d1, d2, d3] => { results := [.lit (.bool false)], args := [d1, d2, d3] }
  | _ => none }
def CodeBackWrongFalsely : Prop := codeBackRow.holds Tryd.pinned (OpenSpec.ofChange codeBackWrong)

/-- 'aumbrylaw22.CodeGoes': WHATEVER THE INPUT: true; the input reads as it did. -/
def codeGoesSpec : ChangeSpec := { name := "codeGoes", fn := fun _ => fun
  | [d1, d2, d3] => { results := [.lit (.bool true)], args := [d1, d2, d3] }
  | _ => none }
def codeGoesRow : OpenClaim := { program := "ytoddklfblcfoiaadoor", sum := "abe1fa834ac7ab128bb2e6eaf2a46d20a8cc13747a40f6ef49eb52188ac63856", func := "aumbry/aumbrylaw22.CodeGoes", spec := "codeGoes", unfollowed := true, recurses := true, named := ["aumbry/code.prims"], apart := false, laid := [("aumbry/code.prims", laid_aumbry_code_prims)] }
def CodeGoesSaid : Prop := codeGoesRow.holds Tryd.pinned (OpenSpec.ofChange codeGoesSpec)

/-- ITS FALSE NEIGHBOUR: 'it returns false'. Refute it at one input. -/
def codeGoesWrong : ChangeSpec := { name := "codeGoes", fn := fun _ => fun
  | [d1, d2, d3] => { results := [.lit (.bool false)], args := [d1, d2, d3] }
  | _ => none }
def CodeGoesWrongFalsely : Prop := codeGoesRow.holds Tryd.pinned (OpenSpec.ofChange codeGoesWrong)

/-- 'aumbrylaw22.CodeSpoilt': WHATEVER THE INPUT: true; the input reads as it did. -/
def codeSpoiltSpec : ChangeSpec := { name := "codeSpoilt", fn := fun _ => fun
  | [d] => { results := [.lit (.bool true)], args := [d] }
  | _ => none }
def codeSpoiltRow : OpenClaim := { program := "ytoddklfblcfoiaadoor", sum := "abe1fa834ac7ab128bb2e6eaf2a46d20a8cc13747a40f6ef49eb52188ac63856", func := "aumbry/aumbrylaw22.CodeSpoilt", spec := "codeSpoilt", unfollowed := true, recurses := true, named := ["aumbry/code.prims"], apart := false, laid := [("aumbry/code.prims", laid_aumbry_code_prims)] }
def CodeSpoiltSaid : Prop := codeSpoiltRow.holds Tryd.pinned (OpenSpec.ofChange codeSpoiltSpec)

/-- ITS FALSE NEIGHBOUR: 'it returns false'. Refute it at one input. -/
def codeSpoiltWrong : ChangeSpec := { name := "codeSpoilt", fn := fun _ => fun
  | [d] => { results := [.lit (.bool false)], args := [d] }
  | _ => none }
def CodeSpoiltWrongFalsely : Prop := codeSpoiltRow.holds Tryd.pinned (OpenSpec.ofChange codeSpoiltWrong)

/-- 'aumbrylaw22.CodeHeights': WHATEVER THE INPUT: true; the input reads as it did. -/
def codeHeightsSpec : ChangeSpec := { name := "codeHeights", fn := fun _ => fun
  | [d1, d2, d3] => { results := [.lit (.bool true)], args := [d1, d2, d3] }
  | _ => none }
def codeHeightsRow : OpenClaim := { program := "ytoddklfblcfoiaadoor", sum := "abe1fa834ac7ab128bb2e6eaf2a46d20a8cc13747a40f6ef49eb52188ac63856", func := "aumbry/aumbrylaw22.CodeHeights", spec := "codeHeights", unfollowed := true, recurses := true, named := ["aumbry/code.prims"], apart := false, laid := [("aumbry/code.prims", laid_aumbry_code_prims)] }
def CodeHeightsSaid : Prop := codeHeightsRow.holds Tryd.pinned (OpenSpec.ofChange codeHeightsSpec)

/-- ITS FALSE NEIGHBOUR: 'it returns false'. Refute it at one input. -/
def codeHeightsWrong : ChangeSpec := { name := "codeHeights", fn := fun _ => fun
  | [d1, d2, d3] => { results := [.lit (.bool false)], args := [d1, d2, d3] }
  | _ => none }
def CodeHeightsWrongFalsely : Prop := codeHeightsRow.holds Tryd.pinned (OpenSpec.ofChange codeHeightsWrong)

/- THE SECOND FORM. 'bulk': how many values and letters a reading holds, each counted each time it is reached (what is shared counts as often as it is met; a slice's spare places count too). A statement '..UptoSaid' is the law's where the arguments, and the package variables that the reading takes, are together of bulk at most 1048576: NARROWER than '..Said'. Prove '..Said' where nothing that the law and all that it calls make is longer than what came in: it says more and counts as full. Else prove '..UptoSaid'. A law counts once. -/
mutual
def uptoBulk {H : Type} : DataW H → Nat
  | .lit (.string bytes) => bytes.length + 1
  | .lit _ => 1
  | .nil => 1
  | .ptr d => uptoBulk d + 1
  | .slice elems spare => uptoBulkAll elems + uptoBulkAll spare + 1
  | .agg parts => uptoBulkAll parts + 1
  | .iface _ d => uptoBulk d + 1
  | .map entries => uptoBulkEntries entries + 1
  | .held _ => 1
def uptoBulkAll {H : Type} : List (DataW H) → Nat
  | [] => 0
  | d :: r => uptoBulk d + uptoBulkAll r
def uptoBulkEntries {H : Type} : List (Lit × DataW H) → Nat
  | [] => 0
  | x :: r => uptoBulkEntry x + uptoBulkEntries r
def uptoBulkEntry {H : Type} : Lit × DataW H → Nat
  | (.string bytes, d) => bytes.length + uptoBulk d + 1
  | (_, d) => uptoBulk d + 1
 end
def uptoSmall : (H : Type) → List (DataW H) → Bool := fun _ ds => decide (uptoBulkAll ds ≤ 1048576)
def OpenSpec.upto (s : _root_.Go.ChangeSpec) : _root_.Go.OpenSpec := { _root_.Go.OpenSpec.ofChange s with cond := some uptoSmall }

/-- 'aumbrylaw22.CodeBytes', WHERE WHAT IT READS IS OF BULK AT MOST 1048576: true; the input reads as it did. -/
def codeBytesUptoRow : OpenClaim := { program := "ytoddklfblcfoiaadoor", sum := "abe1fa834ac7ab128bb2e6eaf2a46d20a8cc13747a40f6ef49eb52188ac63856", func := "aumbry/aumbrylaw22.CodeBytes", spec := "codeBytes", unfollowed := true, recurses := true, named := ["aumbry/code.prims"], apart := false, laid := [("aumbry/code.prims", laid_aumbry_code_prims)], narrowed := true }
def CodeBytesUptoSaid : Prop := codeBytesUptoRow.holds Tryd.pinned (OpenSpec.upto codeBytesSpec)

/-- 'aumbrylaw22.CodeChecks', WHERE WHAT IT READS IS OF BULK AT MOST 1048576: true; the input reads as it did. -/
def codeChecksUptoRow : OpenClaim := { program := "ytoddklfblcfoiaadoor", sum := "abe1fa834ac7ab128bb2e6eaf2a46d20a8cc13747a40f6ef49eb52188ac63856", func := "aumbry/aumbrylaw22.CodeChecks", spec := "codeChecks", unfollowed := true, recurses := true, named := ["aumbry/code.prims"], apart := false, laid := [("aumbry/code.prims", laid_aumbry_code_prims)], narrowed := true }
def CodeChecksUptoSaid : Prop := codeChecksUptoRow.holds Tryd.pinned (OpenSpec.upto codeChecksSpec)

/-- 'aumbrylaw22.CodeTakes', WHERE WHAT IT READS IS OF BULK AT MOST 1048576: true; the input reads as it did. -/
def codeTakesUptoRow : OpenClaim := { program := "ytoddklfblcfoiaadoor", sum := "abe1fa834ac7ab128bb2e6eaf2a46d20a8cc13747a40f6ef49eb52188ac63856", func := "aumbry/aumbrylaw22.CodeTakes", spec := "codeTakes", unfollowed := true, recurses := true, named := ["aumbry/code.prims"], apart := false, laid := [("aumbry/code.prims", laid_aumbry_code_prims)], narrowed := true }
def CodeTakesUptoSaid : Prop := codeTakesUptoRow.holds Tryd.pinned (OpenSpec.upto codeTakesSpec)

/-- 'aumbrylaw22.CodeBack', WHERE WHAT IT READS IS OF BULK AT MOST 1048576: true; the input reads as it did. -/
def codeBackUptoRow : OpenClaim := { program := "ytoddklfblcfoiaadoor", sum := "abe1fa834ac7ab128bb2e6eaf2a46d20a8cc13747a40f6ef49eb52188ac63856", func := "aumbry/aumbrylaw22.CodeBack", spec := "codeBack", unfollowed := true, recurses := true, named := ["aumbry/code.prims"], apart := false, laid := [("aumbry/code.prims", laid_aumbry_code_prims)], narrowed := true }
def CodeBackUptoSaid : Prop := codeBackUptoRow.holds Tryd.pinned (OpenSpec.upto codeBackSpec)

/-- 'aumbrylaw22.CodeGoes', WHERE WHAT IT READS IS OF BULK AT MOST 1048576: true; the input reads as it did. -/
def codeGoesUptoRow : OpenClaim := { program := "ytoddklfblcfoiaadoor", sum := "abe1fa834ac7ab128bb2e6eaf2a46d20a8cc13747a40f6ef49eb52188ac63856", func := "aumbry/aumbrylaw22.CodeGoes", spec := "codeGoes", unfollowed := true, recurses := true, named := ["aumbry/code.prims"], apart := false, laid := [("aumbry/code.prims", laid_aumbry_code_prims)], narrowed := true }
def CodeGoesUptoSaid : Prop := codeGoesUptoRow.holds Tryd.pinned (OpenSpec.upto codeGoesSpec)

/-- 'aumbrylaw22.CodeSpoilt', WHERE WHAT IT READS IS OF BULK AT MOST 1048576: true; the input reads as it did. -/
def codeSpoiltUptoRow : OpenClaim := { program := "ytoddklfblcfoiaadoor", sum := "abe1fa834ac7ab128bb2e6eaf2a46d20a8cc13747a40f6ef49eb52188ac63856", func := "aumbry/aumbrylaw22.CodeSpoilt", spec := "codeSpoilt", unfollowed := true, recurses := true, named := ["aumbry/code.prims"], apart := false, laid := [("aumbry/code.prims", laid_aumbry_code_prims)], narrowed := true }
def CodeSpoiltUptoSaid : Prop := codeSpoiltUptoRow.holds Tryd.pinned (OpenSpec.upto codeSpoiltSpec)

/-- 'aumbrylaw22.CodeHeights', WHERE WHAT IT READS IS OF BULK AT MOST 1048576: true; the input reads as it did. -/
def codeHeightsUptoRow : OpenClaim := { program := "ytoddklfblcfoiaadoor", sum := "abe1fa834ac7ab128bb2e6eaf2a46d20a8cc13747a40f6ef49eb52188ac63856", func := "aumbry/aumbrylaw22.CodeHeights", spec := "codeHeights", unfollowed := true, recurses := true, named := ["aumbry/code.prims"], apart := false, laid := [("aumbry/code.prims", laid_aumbry_code_prims)], narrowed := true }
def CodeHeightsUptoSaid : Prop := codeHeightsUptoRow.holds Tryd.pinned (OpenSpec.upto codeHeightsSpec)

end Rows
end Go.Proofs.YtoddklfblcfoiaaDoor
