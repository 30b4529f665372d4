/-
  DERIVED. GIVEN WITH THE SEED: THE CARDS: each row of YtobagfndagjajaaDoorRows.lean that lists a variable, with what it lists TIED to the program's text (the seventh form; the later family's looks); each row that meets fmt, with fmt's text TOLD by the authors' own Lean function (tested against real Go, not proved from fmt's source: count such statements apart). THE CARD IS WHAT COUNTS. Prove the row's statement (the work); the ties are given (YtobagfndagjajaaDoorTie.lean); close each card by the builder's one call (the guide's Derived/Test/ToyasCard.lean, 'card_holds'). Laid BY PROGRAM, IN A SANDBOX (cutbox-door.mjs). By AI agents, Wed Nov 11 2026. No macro, syntax, notation, axiom, sorry.
-/
import Derived.Test.YtobagfndagjajaaDoorRows
import GoSem.ClaimSeven
namespace Go.Proofs.YtobagfndagjajaaDoor
namespace Rows

/-- THE TIED CARD OF 'aumbrylaw04.BlockSeals'. -/
def blockSealsCard : Claim7 := { stood := { row := blockSealsRow, standIns := [], harness := (true, "0055310e2bb7091a169c4549dd3e3088654988f139f45ede9efb4693b529784a"), looks := false }, kinds := [], alts := [], laidByText := true, laidKinds := [.data, .pinned], laidTests := true, laidLooks := .later }
def BlockSealsCardSaid : Prop := Claim7.holds Tryd.pinned (.plain (OpenSpec.ofChange blockSealsSpec)) blockSealsCard

/-- THE TIED CARD OF 'aumbrylaw04.BlockOpens'. -/
def blockOpensCard : Claim7 := { stood := { row := blockOpensRow, standIns := [], harness := (true, "0055310e2bb7091a169c4549dd3e3088654988f139f45ede9efb4693b529784a"), looks := false }, kinds := [], alts := [], laidByText := true, laidKinds := [.data, .pinned], laidTests := true, laidLooks := .later }
def BlockOpensCardSaid : Prop := Claim7.holds Tryd.pinned (.plain (OpenSpec.ofChange blockOpensSpec)) blockOpensCard

/-- THE TIED CARD OF 'aumbrylaw04.BlockBack'. -/
def blockBackCard : Claim7 := { stood := { row := blockBackRow, standIns := [], harness := (true, "0055310e2bb7091a169c4549dd3e3088654988f139f45ede9efb4693b529784a"), looks := false }, kinds := [], alts := [], laidByText := true, laidKinds := [.data, .pinned], laidTests := true, laidLooks := .later }
def BlockBackCardSaid : Prop := Claim7.holds Tryd.pinned (.plain (OpenSpec.ofChange blockBackSpec)) blockBackCard

/-- THE TIED CARD OF 'aumbrylaw04.BlockBursts'. -/
def blockBurstsCard : Claim7 := { stood := { row := blockBurstsRow, standIns := [], harness := (true, "0055310e2bb7091a169c4549dd3e3088654988f139f45ede9efb4693b529784a"), looks := false }, kinds := [], alts := [], laidByText := true, laidKinds := [.data, .pinned], laidTests := true, laidLooks := .later }
def BlockBurstsCardSaid : Prop := Claim7.holds Tryd.pinned (.plain (OpenSpec.ofChange blockBurstsSpec)) blockBurstsCard

/-- THE TIED CARD OF 'aumbrylaw04.BlockForms'. -/
def blockFormsCard : Claim7 := { stood := { row := blockFormsRow, standIns := [], harness := (true, "0055310e2bb7091a169c4549dd3e3088654988f139f45ede9efb4693b529784a"), looks := false }, kinds := [], alts := [], laidByText := true, laidKinds := [.data, .pinned], laidTests := true, laidLooks := .later }
def BlockFormsCardSaid : Prop := Claim7.holds Tryd.pinned (.plain (OpenSpec.ofChange blockFormsSpec)) blockFormsCard

/-- THE TIED CARD OF 'aumbrylaw04.BlockLengths'. -/
def blockLengthsCard : Claim7 := { stood := { row := blockLengthsRow, standIns := [], harness := (true, "0055310e2bb7091a169c4549dd3e3088654988f139f45ede9efb4693b529784a"), looks := false }, kinds := [], alts := [], laidByText := true, laidKinds := [.data, .pinned], laidTests := true, laidLooks := .later }
def BlockLengthsCardSaid : Prop := Claim7.holds Tryd.pinned (.plain (OpenSpec.ofChange blockLengthsSpec)) blockLengthsCard

/-- THE SECOND FORM's CARD OF 'aumbrylaw04.BlockSeals'. -/
def blockSealsUptoCard : Claim7 := { stood := { row := blockSealsUptoRow, standIns := [], harness := (true, "0055310e2bb7091a169c4549dd3e3088654988f139f45ede9efb4693b529784a"), looks := false }, kinds := [], alts := [], laidByText := true, laidKinds := [.data, .pinned], laidTests := true, laidLooks := .later }
def BlockSealsUptoCardSaid : Prop := Claim7.holds Tryd.pinned (.plain (OpenSpec.upto blockSealsSpec)) blockSealsUptoCard

/-- THE SECOND FORM's CARD OF 'aumbrylaw04.BlockOpens'. -/
def blockOpensUptoCard : Claim7 := { stood := { row := blockOpensUptoRow, standIns := [], harness := (true, "0055310e2bb7091a169c4549dd3e3088654988f139f45ede9efb4693b529784a"), looks := false }, kinds := [], alts := [], laidByText := true, laidKinds := [.data, .pinned], laidTests := true, laidLooks := .later }
def BlockOpensUptoCardSaid : Prop := Claim7.holds Tryd.pinned (.plain (OpenSpec.upto blockOpensSpec)) blockOpensUptoCard

/-- THE SECOND FORM's CARD OF 'aumbrylaw04.BlockBack'. -/
def blockBackUptoCard : Claim7 := { stood := { row := blockBackUptoRow, standIns := [], harness := (true, "0055310e2bb7091a169c4549dd3e3088654988f139f45ede9efb4693b529784a"), looks := false }, kinds := [], alts := [], laidByText := true, laidKinds := [.data, .pinned], laidTests := true, laidLooks := .later }
def BlockBackUptoCardSaid : Prop := Claim7.holds Tryd.pinned (.plain (OpenSpec.upto blockBackSpec)) blockBackUptoCard

/-- THE SECOND FORM's CARD OF 'aumbrylaw04.BlockBursts'. -/
def blockBurstsUptoCard : Claim7 := { stood := { row := blockBurstsUptoRow, standIns := [], harness := (true, "0055310e2bb7091a169c4549dd3e3088654988f139f45ede9efb4693b529784a"), looks := false }, kinds := [], alts := [], laidByText := true, laidKinds := [.data, .pinned], laidTests := true, laidLooks := .later }
def BlockBurstsUptoCardSaid : Prop := Claim7.holds Tryd.pinned (.plain (OpenSpec.upto blockBurstsSpec)) blockBurstsUptoCard

/-- THE SECOND FORM's CARD OF 'aumbrylaw04.BlockForms'. -/
def blockFormsUptoCard : Claim7 := { stood := { row := blockFormsUptoRow, standIns := [], harness := (true, "0055310e2bb7091a169c4549dd3e3088654988f139f45ede9efb4693b529784a"), looks := false }, kinds := [], alts := [], laidByText := true, laidKinds := [.data, .pinned], laidTests := true, laidLooks := .later }
def BlockFormsUptoCardSaid : Prop := Claim7.holds Tryd.pinned (.plain (OpenSpec.upto blockFormsSpec)) blockFormsUptoCard

/-- THE SECOND FORM's CARD OF 'aumbrylaw04.BlockLengths'. -/
def blockLengthsUptoCard : Claim7 := { stood := { row := blockLengthsUptoRow, standIns := [], harness := (true, "0055310e2bb7091a169c4549dd3e3088654988f139f45ede9efb4693b529784a"), looks := false }, kinds := [], alts := [], laidByText := true, laidKinds := [.data, .pinned], laidTests := true, laidLooks := .later }
def BlockLengthsUptoCardSaid : Prop := Claim7.holds Tryd.pinned (.plain (OpenSpec.upto blockLengthsSpec)) blockLengthsUptoCard
end Rows
end Go.Proofs.YtobagfndagjajaaDoor
