/-
  DERIVED. GIVEN WITH THE SEED: THE CARDS: each row of YtoddklfblcfoiaaDoorRows.lean that lists a variable, with what it lists TIED to the program's text (the seventh form; the later family's looks); each row that meets fmt, with fmt's text TOLD by the authors' own Lean function (tested against real Go, not proved from fmt's source: count such statements apart). THE CARD IS WHAT COUNTS. Prove the row's statement (the work); the ties are given (YtoddklfblcfoiaaDoorTie.lean); close each card by the builder's one call (the guide's Derived/Test/ToyasCard.lean, 'card_holds'). Laid BY PROGRAM, IN A SANDBOX (cutbox-door.mjs). By AI agents, Wed Nov 11 2026. No macro, syntax, notation, axiom, sorry.
-/
import Derived.Test.YtoddklfblcfoiaaDoorRows
import GoSem.ClaimSeven
namespace Go.Proofs.YtoddklfblcfoiaaDoor
namespace Rows

/-- THE TIED CARD OF 'aumbrylaw22.CodeBytes'. -/
def codeBytesCard : Claim7 := { stood := { row := codeBytesRow, standIns := [], harness := (true, "95d90e43594e574b5f5a7bdfe5f3997e9757126203cefb3762e5bb35cb087b70"), looks := true }, kinds := [], alts := [], laidByText := true, laidKinds := [.mappedDeep], laidTests := true, laidLooks := .later }
def CodeBytesCardSaid : Prop := Claim7.holds Tryd.pinned (.plain (OpenSpec.ofChange codeBytesSpec)) codeBytesCard

/-- THE TIED CARD OF 'aumbrylaw22.CodeChecks'. -/
def codeChecksCard : Claim7 := { stood := { row := codeChecksRow, standIns := [], harness := (true, "95d90e43594e574b5f5a7bdfe5f3997e9757126203cefb3762e5bb35cb087b70"), looks := true }, kinds := [], alts := [], laidByText := true, laidKinds := [.mappedDeep], laidTests := true, laidLooks := .later }
def CodeChecksCardSaid : Prop := Claim7.holds Tryd.pinned (.plain (OpenSpec.ofChange codeChecksSpec)) codeChecksCard

/-- THE TIED CARD OF 'aumbrylaw22.CodeTakes'. -/
def codeTakesCard : Claim7 := { stood := { row := codeTakesRow, standIns := [], harness := (true, "95d90e43594e574b5f5a7bdfe5f3997e9757126203cefb3762e5bb35cb087b70"), looks := true }, kinds := [], alts := [], laidByText := true, laidKinds := [.mappedDeep], laidTests := true, laidLooks := .later }
def CodeTakesCardSaid : Prop := Claim7.holds Tryd.pinned (.plain (OpenSpec.ofChange codeTakesSpec)) codeTakesCard

/-- THE TIED CARD OF 'aumbrylaw22.CodeBack'. -/
def codeBackCard : Claim7 := { stood := { row := codeBackRow, standIns := [], harness := (true, "95d90e43594e574b5f5a7bdfe5f3997e9757126203cefb3762e5bb35cb087b70"), looks := true }, kinds := [], alts := [], laidByText := true, laidKinds := [.mappedDeep], laidTests := true, laidLooks := .later }
def CodeBackCardSaid : Prop := Claim7.holds Tryd.pinned (.plain (OpenSpec.ofChange codeBackSpec)) codeBackCard

/-- THE TIED CARD OF 'aumbrylaw22.CodeGoes'. -/
def codeGoesCard : Claim7 := { stood := { row := codeGoesRow, standIns := [], harness := (true, "95d90e43594e574b5f5a7bdfe5f3997e9757126203cefb3762e5bb35cb087b70"), looks := true }, kinds := [], alts := [], laidByText := true, laidKinds := [.mappedDeep], laidTests := true, laidLooks := .later }
def CodeGoesCardSaid : Prop := Claim7.holds Tryd.pinned (.plain (OpenSpec.ofChange codeGoesSpec)) codeGoesCard

/-- THE TIED CARD OF 'aumbrylaw22.CodeSpoilt'. -/
def codeSpoiltCard : Claim7 := { stood := { row := codeSpoiltRow, standIns := [], harness := (true, "95d90e43594e574b5f5a7bdfe5f3997e9757126203cefb3762e5bb35cb087b70"), looks := true }, kinds := [], alts := [], laidByText := true, laidKinds := [.mappedDeep], laidTests := true, laidLooks := .later }
def CodeSpoiltCardSaid : Prop := Claim7.holds Tryd.pinned (.plain (OpenSpec.ofChange codeSpoiltSpec)) codeSpoiltCard

/-- THE TIED CARD OF 'aumbrylaw22.CodeHeights'. -/
def codeHeightsCard : Claim7 := { stood := { row := codeHeightsRow, standIns := [], harness := (true, "95d90e43594e574b5f5a7bdfe5f3997e9757126203cefb3762e5bb35cb087b70"), looks := true }, kinds := [], alts := [], laidByText := true, laidKinds := [.mappedDeep], laidTests := true, laidLooks := .later }
def CodeHeightsCardSaid : Prop := Claim7.holds Tryd.pinned (.plain (OpenSpec.ofChange codeHeightsSpec)) codeHeightsCard

/-- THE SECOND FORM's CARD OF 'aumbrylaw22.CodeBytes'. -/
def codeBytesUptoCard : Claim7 := { stood := { row := codeBytesUptoRow, standIns := [], harness := (true, "95d90e43594e574b5f5a7bdfe5f3997e9757126203cefb3762e5bb35cb087b70"), looks := true }, kinds := [], alts := [], laidByText := true, laidKinds := [.mappedDeep], laidTests := true, laidLooks := .later }
def CodeBytesUptoCardSaid : Prop := Claim7.holds Tryd.pinned (.plain (OpenSpec.upto codeBytesSpec)) codeBytesUptoCard

/-- THE SECOND FORM's CARD OF 'aumbrylaw22.CodeChecks'. -/
def codeChecksUptoCard : Claim7 := { stood := { row := codeChecksUptoRow, standIns := [], harness := (true, "95d90e43594e574b5f5a7bdfe5f3997e9757126203cefb3762e5bb35cb087b70"), looks := true }, kinds := [], alts := [], laidByText := true, laidKinds := [.mappedDeep], laidTests := true, laidLooks := .later }
def CodeChecksUptoCardSaid : Prop := Claim7.holds Tryd.pinned (.plain (OpenSpec.upto codeChecksSpec)) codeChecksUptoCard

/-- THE SECOND FORM's CARD OF 'aumbrylaw22.CodeTakes'. -/
def codeTakesUptoCard : Claim7 := { stood := { row := codeTakesUptoRow, standIns := [], harness := (true, "95d90e43594e574b5f5a7bdfe5f3997e9757126203cefb3762e5bb35cb087b70"), looks := true }, kinds := [], alts := [], laidByText := true, laidKinds := [.mappedDeep], laidTests := true, laidLooks := .later }
def CodeTakesUptoCardSaid : Prop := Claim7.holds Tryd.pinned (.plain (OpenSpec.upto codeTakesSpec)) codeTakesUptoCard

/-- THE SECOND FORM's CARD OF 'aumbrylaw22.CodeBack'. -/
def codeBackUptoCard : Claim7 := { stood := { row := codeBackUptoRow, standIns := [], harness := (true, "95d90e43594e574b5f5a7bdfe5f3997e9757126203cefb3762e5bb35cb087b70"), looks := true }, kinds := [], alts := [], laidByText := true, laidKinds := [.mappedDeep], laidTests := true, laidLooks := .later }
def CodeBackUptoCardSaid : Prop := Claim7.holds Tryd.pinned (.plain (OpenSpec.upto codeBackSpec)) codeBackUptoCard

/-- THE SECOND FORM's CARD OF 'aumbrylaw22.CodeGoes'. -/
def codeGoesUptoCard : Claim7 := { stood := { row := codeGoesUptoRow, standIns := [], harness := (true, "95d90e43594e574b5f5a7bdfe5f3997e9757126203cefb3762e5bb35cb087b70"), looks := true }, kinds := [], alts := [], laidByText := true, laidKinds := [.mappedDeep], laidTests := true, laidLooks := .later }
def CodeGoesUptoCardSaid : Prop := Claim7.holds Tryd.pinned (.plain (OpenSpec.upto codeGoesSpec)) codeGoesUptoCard

/-- THE SECOND FORM's CARD OF 'aumbrylaw22.CodeSpoilt'. -/
def codeSpoiltUptoCard : Claim7 := { stood := { row := codeSpoiltUptoRow, standIns := [], harness := (true, "95d90e43594e574b5f5a7bdfe5f3997e9757126203cefb3762e5bb35cb087b70"), looks := true }, kinds := [], alts := [], laidByText := true, laidKinds := [.mappedDeep], laidTests := true, laidLooks := .later }
def CodeSpoiltUptoCardSaid : Prop := Claim7.holds Tryd.pinned (.plain (OpenSpec.upto codeSpoiltSpec)) codeSpoiltUptoCard

/-- THE SECOND FORM's CARD OF 'aumbrylaw22.CodeHeights'. -/
def codeHeightsUptoCard : Claim7 := { stood := { row := codeHeightsUptoRow, standIns := [], harness := (true, "95d90e43594e574b5f5a7bdfe5f3997e9757126203cefb3762e5bb35cb087b70"), looks := true }, kinds := [], alts := [], laidByText := true, laidKinds := [.mappedDeep], laidTests := true, laidLooks := .later }
def CodeHeightsUptoCardSaid : Prop := Claim7.holds Tryd.pinned (.plain (OpenSpec.upto codeHeightsSpec)) codeHeightsUptoCard
end Rows
end Go.Proofs.YtoddklfblcfoiaaDoor
