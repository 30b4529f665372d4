/-
  No cell of these rows narrows 'for every input' (looked for: loops, veiled, ifaces, maps, wideKeys, modest, calm, conditions, laid).
  DERIVED. THE GIVEN ROWS OF THIS SEAT. 5 by the template 'for every input the law returns true; each argument reads behind the call as it read before'; 0 by the template 'total and deterministic' (their statements: YtnbabdeklceklaaTotals.lean).
  GIVEN WITH THE SEED: the statements are not yours to turn. If you find one false, say at which input.
  Laid BY PROGRAM, IN A SANDBOX (cutbox-rows.mjs): the forced cells as the released guide's own fill.sh prints them over the translation 00c92b233625177e… (all of the seat's roots in one cut). By AI agents, Wed Nov 11 2026. No macro, syntax, notation, axiom, sorry.
-/
import Derived.Test.YtnbabdeklceklaaChecked
import GoSem.Claim
import GoSem.ClaimJoined
import GoSem.ClaimMapViews
import Derived.JoinedTies
import Derived.KernelRfl
namespace Go.Proofs.Ytnbabdeklceklaa
/- THE CELL 'sum', in the pinned program and in every row, IS THE sha256 OF THE DUMP (.gsa) THAT YtnbabdeklceklaaProg.lean LOADS. Nothing in Lean hashes anything: it is a label: what it is worth is what the hold of that sum in a sandbox is worth. -/
noncomputable def Try.pinned : Pinned := { name := "ytnbabdeklceklaa", sum := "00c92b233625177e73ab886b37c50dbced6611d5c20145d083720a5a9c7512ad", checked := Try.checked }
namespace Rows
def none {H : Type} : Left H := { results := [], args := [] }

/-- 'aumbrylaw01.OctetFields': WHATEVER THE INPUT: true; the input reads as it did. -/
def octetFieldsSpec : ChangeSpec := { name := "octetFields", fn := fun _ => fun
  | [d1, d2, d3, d4] => { results := [.lit (.bool true)], args := [d1, d2, d3, d4] }
  | _ => none }
def octetFieldsRow : OpenClaim := { program := "ytnbabdeklceklaa", sum := "00c92b233625177e73ab886b37c50dbced6611d5c20145d083720a5a9c7512ad", func := "aumbry/aumbrylaw01.OctetFields", spec := "octetFields", unfollowed := true, recurses := true, apart := false }
def OctetFieldsSaid : Prop := octetFieldsRow.holds Try.pinned (OpenSpec.ofChange octetFieldsSpec)

/-- ITS FALSE NEIGHBOUR: 'it returns false'. Refute it at one input. -/
def octetFieldsWrong : ChangeSpec := { name := "octetFields", fn := fun _ => fun
  | [d1, d2, d3, d4] => { results := [.lit (.bool false)], args := [d1, d2, d3, d4] }
  | _ => none }
def OctetFieldsWrongFalsely : Prop := octetFieldsRow.holds Try.pinned (OpenSpec.ofChange octetFieldsWrong)

/-- 'aumbrylaw01.OctetRecord': WHATEVER THE INPUT: true; the input reads as it did. -/
def octetRecordSpec : ChangeSpec := { name := "octetRecord", fn := fun _ => fun
  | [d1, d2, d3] => { results := [.lit (.bool true)], args := [d1, d2, d3] }
  | _ => none }
def octetRecordRow : OpenClaim := { program := "ytnbabdeklceklaa", sum := "00c92b233625177e73ab886b37c50dbced6611d5c20145d083720a5a9c7512ad", func := "aumbry/aumbrylaw01.OctetRecord", spec := "octetRecord", unfollowed := true, recurses := true, apart := false }
def OctetRecordSaid : Prop := octetRecordRow.holds Try.pinned (OpenSpec.ofChange octetRecordSpec)

/-- ITS FALSE NEIGHBOUR: 'it returns false'. Refute it at one input. -/
def octetRecordWrong : ChangeSpec := { name := "octetRecord", fn := fun _ => fun
  | [d1, d2, d3] => { results := [.lit (.bool false)], args := [d1, d2, d3] }
  | _ => none }
def OctetRecordWrongFalsely : Prop := octetRecordRow.holds Try.pinned (OpenSpec.ofChange octetRecordWrong)

/-- 'aumbrylaw01.OctetParts': WHATEVER THE INPUT: true; the input reads as it did. -/
def octetPartsSpec : ChangeSpec := { name := "octetParts", fn := fun _ => fun
  | [d1, d2] => { results := [.lit (.bool true)], args := [d1, d2] }
  | _ => none }
def octetPartsRow : OpenClaim := { program := "ytnbabdeklceklaa", sum := "00c92b233625177e73ab886b37c50dbced6611d5c20145d083720a5a9c7512ad", func := "aumbry/aumbrylaw01.OctetParts", spec := "octetParts", unfollowed := true, recurses := true, apart := false }
def OctetPartsSaid : Prop := octetPartsRow.holds Try.pinned (OpenSpec.ofChange octetPartsSpec)

/-- ITS FALSE NEIGHBOUR: 'it returns false'. Refute it at one input. -/
def octetPartsWrong : ChangeSpec := { name := "octetParts", fn := fun _ => fun
  | [d1, d2] => { results := [.lit (.bool false)], args := [d1, d2] }
  | _ => none }
def OctetPartsWrongFalsely : Prop := octetPartsRow.holds Try.pinned (OpenSpec.ofChange octetPartsWrong)

/-- 'aumbrylaw01.OctetBlank': WHATEVER THE INPUT: true; the input reads as it did. -/
def octetBlankSpec : ChangeSpec := { name := "octetBlank", fn := fun _ => fun
  | [d1, d2, d3, d4] => { results := [.lit (.bool true)], args := [d1, d2, d3, d4] }
  | _ => none }
def octetBlankRow : OpenClaim := { program := "ytnbabdeklceklaa", sum := "00c92b233625177e73ab886b37c50dbced6611d5c20145d083720a5a9c7512ad", func := "aumbry/aumbrylaw01.OctetBlank", spec := "octetBlank", unfollowed := true, recurses := true, apart := false }
def OctetBlankSaid : Prop := octetBlankRow.holds Try.pinned (OpenSpec.ofChange octetBlankSpec)

/-- ITS FALSE NEIGHBOUR: 'it returns false'. Refute it at one input. -/
def octetBlankWrong : ChangeSpec := { name := "octetBlank", fn := fun _ => fun
  | [d1, d2, d3, d4] => { results := [.lit (.bool false)], args := [d1, d2, d3, d4] }
  | _ => none }
def OctetBlankWrongFalsely : Prop := octetBlankRow.holds Try.pinned (OpenSpec.ofChange octetBlankWrong)

/-- 'aumbrylaw01.OctetGrows': WHATEVER THE INPUT: true; the input reads as it did. -/
def octetGrowsSpec : ChangeSpec := { name := "octetGrows", fn := fun _ => fun
  | [d1, d2] => { results := [.lit (.bool true)], args := [d1, d2] }
  | _ => none }
def octetGrowsRow : OpenClaim := { program := "ytnbabdeklceklaa", sum := "00c92b233625177e73ab886b37c50dbced6611d5c20145d083720a5a9c7512ad", func := "aumbry/aumbrylaw01.OctetGrows", spec := "octetGrows", unfollowed := true, recurses := true, apart := false }
def OctetGrowsSaid : Prop := octetGrowsRow.holds Try.pinned (OpenSpec.ofChange octetGrowsSpec)

/-- ITS FALSE NEIGHBOUR: 'it returns false'. Refute it at one input. -/
def octetGrowsWrong : ChangeSpec := { name := "octetGrows", fn := fun _ => fun
  | [d1, d2] => { results := [.lit (.bool false)], args := [d1, d2] }
  | _ => none }
def OctetGrowsWrongFalsely : Prop := octetGrowsRow.holds Try.pinned (OpenSpec.ofChange octetGrowsWrong)

/- THE SECOND FORM. 'bulk': how many values and letters a reading holds, each counted each time it is reached (what is shared counts as often as it is met; a slice's spare places count too). A statement '..UptoSaid' is the law's where the arguments, and the package variables that the reading takes, are together of bulk at most 1048576: NARROWER than '..Said'. Prove '..Said' where nothing that the law and all that it calls make is longer than what came in: it says more and counts as full. Else prove '..UptoSaid'. A law counts once. -/
mutual
def uptoBulk {H : Type} : DataW H → Nat
  | .lit (.string bytes) => bytes.length + 1
  | .lit _ => 1
  | .nil => 1
  | .ptr d => uptoBulk d + 1
  | .slice elems spare => uptoBulkAll elems + uptoBulkAll spare + 1
  | .agg parts => uptoBulkAll parts + 1
  | .iface _ d => uptoBulk d + 1
  | .map entries => uptoBulkEntries entries + 1
  | .held _ => 1
def uptoBulkAll {H : Type} : List (DataW H) → Nat
  | [] => 0
  | d :: r => uptoBulk d + uptoBulkAll r
def uptoBulkEntries {H : Type} : List (Lit × DataW H) → Nat
  | [] => 0
  | x :: r => uptoBulkEntry x + uptoBulkEntries r
def uptoBulkEntry {H : Type} : Lit × DataW H → Nat
  | (.string bytes, d) => bytes.length + uptoBulk d + 1
  | (_, d) => uptoBulk d + 1
 end
def uptoSmall : (H : Type) → List (DataW H) → Bool := fun _ ds => decide (uptoBulkAll ds ≤ 1048576)
def OpenSpec.upto (s : _root_.Go.ChangeSpec) : _root_.Go.OpenSpec := { _root_.Go.OpenSpec.ofChange s with cond := some uptoSmall }

/-- 'aumbrylaw01.OctetFields', WHERE WHAT IT READS IS OF BULK AT MOST 1048576: true; the input reads as it did. -/
def octetFieldsUptoRow : OpenClaim := { program := "ytnbabdeklceklaa", sum := "00c92b233625177e73ab886b37c50dbced6611d5c20145d083720a5a9c7512ad", func := "aumbry/aumbrylaw01.OctetFields", spec := "octetFields", unfollowed := true, recurses := true, apart := false, narrowed := true }
def OctetFieldsUptoSaid : Prop := octetFieldsUptoRow.holds Try.pinned (OpenSpec.upto octetFieldsSpec)

/-- 'aumbrylaw01.OctetRecord', WHERE WHAT IT READS IS OF BULK AT MOST 1048576: true; the input reads as it did. -/
def octetRecordUptoRow : OpenClaim := { program := "ytnbabdeklceklaa", sum := "00c92b233625177e73ab886b37c50dbced6611d5c20145d083720a5a9c7512ad", func := "aumbry/aumbrylaw01.OctetRecord", spec := "octetRecord", unfollowed := true, recurses := true, apart := false, narrowed := true }
def OctetRecordUptoSaid : Prop := octetRecordUptoRow.holds Try.pinned (OpenSpec.upto octetRecordSpec)

/-- 'aumbrylaw01.OctetParts', WHERE WHAT IT READS IS OF BULK AT MOST 1048576: true; the input reads as it did. -/
def octetPartsUptoRow : OpenClaim := { program := "ytnbabdeklceklaa", sum := "00c92b233625177e73ab886b37c50dbced6611d5c20145d083720a5a9c7512ad", func := "aumbry/aumbrylaw01.OctetParts", spec := "octetParts", unfollowed := true, recurses := true, apart := false, narrowed := true }
def OctetPartsUptoSaid : Prop := octetPartsUptoRow.holds Try.pinned (OpenSpec.upto octetPartsSpec)

/-- 'aumbrylaw01.OctetBlank', WHERE WHAT IT READS IS OF BULK AT MOST 1048576: true; the input reads as it did. -/
def octetBlankUptoRow : OpenClaim := { program := "ytnbabdeklceklaa", sum := "00c92b233625177e73ab886b37c50dbced6611d5c20145d083720a5a9c7512ad", func := "aumbry/aumbrylaw01.OctetBlank", spec := "octetBlank", unfollowed := true, recurses := true, apart := false, narrowed := true }
def OctetBlankUptoSaid : Prop := octetBlankUptoRow.holds Try.pinned (OpenSpec.upto octetBlankSpec)

/-- 'aumbrylaw01.OctetGrows', WHERE WHAT IT READS IS OF BULK AT MOST 1048576: true; the input reads as it did. -/
def octetGrowsUptoRow : OpenClaim := { program := "ytnbabdeklceklaa", sum := "00c92b233625177e73ab886b37c50dbced6611d5c20145d083720a5a9c7512ad", func := "aumbry/aumbrylaw01.OctetGrows", spec := "octetGrows", unfollowed := true, recurses := true, apart := false, narrowed := true }
def OctetGrowsUptoSaid : Prop := octetGrowsUptoRow.holds Try.pinned (OpenSpec.upto octetGrowsSpec)

end Rows
end Go.Proofs.Ytnbabdeklceklaa
