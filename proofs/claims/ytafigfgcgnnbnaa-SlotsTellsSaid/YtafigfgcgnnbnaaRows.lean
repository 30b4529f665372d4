/-
  No cell of these rows narrows 'for every input' (looked for: loops, veiled, ifaces, maps, wideKeys, modest, calm, conditions, laid).
  DERIVED. THE GIVEN ROWS OF THIS SEAT. 6 by the template 'for every input the law returns true; each argument reads behind the call as it read before'; 0 by the template 'total and deterministic' (their statements: YtafigfgcgnnbnaaTotals.lean).
  GIVEN WITH THE SEED: the statements are not yours to turn. If you find one false, say at which input.
  Laid BY PROGRAM, IN A SANDBOX (cutbox-rows.mjs): the forced cells as the released guide's own fill.sh prints them over the translation b8a6deeba48bce1b… (all of the seat's roots in one cut). By AI agents, Wed Nov 11 2026. No macro, syntax, notation, axiom, sorry.
-/
import Derived.Test.YtafigfgcgnnbnaaChecked
import GoSem.Claim
import GoSem.ClaimJoined
import GoSem.ClaimMapViews
import Derived.JoinedTies
import Derived.KernelRfl
namespace Go.Proofs.Ytafigfgcgnnbnaa
/- THE CELL 'sum', in the pinned program and in every row, IS THE sha256 OF THE DUMP (.gsa) THAT YtafigfgcgnnbnaaProg.lean LOADS. Nothing in Lean hashes anything: it is a label: what it is worth is what the hold of that sum in a sandbox is worth. -/
noncomputable def Try.pinned : Pinned := { name := "ytafigfgcgnnbnaa", sum := "b8a6deeba48bce1b252c9cc55943085442a90f753167f06100d03303cbbd2108", checked := Try.checked }
namespace Rows
def none {H : Type} : Left H := { results := [], args := [] }

/-- 'aumbrylaw09.SlotsPuts': WHATEVER THE INPUT: true; the input reads as it did. -/
def slotsPutsSpec : ChangeSpec := { name := "slotsPuts", fn := fun _ => fun
  | [d1, d2] => { results := [.lit (.bool true)], args := [d1, d2] }
  | _ => none }
def slotsPutsRow : OpenClaim := { program := "ytafigfgcgnnbnaa", sum := "b8a6deeba48bce1b252c9cc55943085442a90f753167f06100d03303cbbd2108", func := "aumbry/aumbrylaw09.SlotsPuts", spec := "slotsPuts", unfollowed := true, recurses := true, apart := false }
def SlotsPutsSaid : Prop := slotsPutsRow.holds Try.pinned (OpenSpec.ofChange slotsPutsSpec)

/-- ITS FALSE NEIGHBOUR: 'it returns false'. Refute it at one input. -/
def slotsPutsWrong : ChangeSpec := { name := "slotsPuts", fn := fun _ => fun
  | [d1, d2] => { results := [.lit (.bool false)], args := [d1, d2] }
  | _ => none }
def SlotsPutsWrongFalsely : Prop := slotsPutsRow.holds Try.pinned (OpenSpec.ofChange slotsPutsWrong)

/-- 'aumbrylaw09.SlotsDrops': WHATEVER THE INPUT: true; the input reads as it did. -/
def slotsDropsSpec : ChangeSpec := { name := "slotsDrops", fn := fun _ => fun
  | [d1, d2] => { results := [.lit (.bool true)], args := [d1, d2] }
  | _ => none }
def slotsDropsRow : OpenClaim := { program := "ytafigfgcgnnbnaa", sum := "b8a6deeba48bce1b252c9cc55943085442a90f753167f06100d03303cbbd2108", func := "aumbry/aumbrylaw09.SlotsDrops", spec := "slotsDrops", unfollowed := true, recurses := true, apart := false }
def SlotsDropsSaid : Prop := slotsDropsRow.holds Try.pinned (OpenSpec.ofChange slotsDropsSpec)

/-- ITS FALSE NEIGHBOUR: 'it returns false'. Refute it at one input. -/
def slotsDropsWrong : ChangeSpec := { name := "slotsDrops", fn := fun _ => fun
  | [d1, d2] => { results := [.lit (.bool false)], args := [d1, d2] }
  | _ => none }
def SlotsDropsWrongFalsely : Prop := slotsDropsRow.holds Try.pinned (OpenSpec.ofChange slotsDropsWrong)

/-- 'aumbrylaw09.SlotsRoom': WHATEVER THE INPUT: true; the input reads as it did. -/
def slotsRoomSpec : ChangeSpec := { name := "slotsRoom", fn := fun _ => fun
  | [d1, d2] => { results := [.lit (.bool true)], args := [d1, d2] }
  | _ => none }
def slotsRoomRow : OpenClaim := { program := "ytafigfgcgnnbnaa", sum := "b8a6deeba48bce1b252c9cc55943085442a90f753167f06100d03303cbbd2108", func := "aumbry/aumbrylaw09.SlotsRoom", spec := "slotsRoom", unfollowed := true, recurses := true, apart := false }
def SlotsRoomSaid : Prop := slotsRoomRow.holds Try.pinned (OpenSpec.ofChange slotsRoomSpec)

/-- ITS FALSE NEIGHBOUR: 'it returns false'. Refute it at one input. -/
def slotsRoomWrong : ChangeSpec := { name := "slotsRoom", fn := fun _ => fun
  | [d1, d2] => { results := [.lit (.bool false)], args := [d1, d2] }
  | _ => none }
def SlotsRoomWrongFalsely : Prop := slotsRoomRow.holds Try.pinned (OpenSpec.ofChange slotsRoomWrong)

/-- 'aumbrylaw09.SlotsKeeps': WHATEVER THE INPUT: true; the input reads as it did. -/
def slotsKeepsSpec : ChangeSpec := { name := "slotsKeeps", fn := fun _ => fun
  | [d] => { results := [.lit (.bool true)], args := [d] }
  | _ => none }
def slotsKeepsRow : OpenClaim := { program := "ytafigfgcgnnbnaa", sum := "b8a6deeba48bce1b252c9cc55943085442a90f753167f06100d03303cbbd2108", func := "aumbry/aumbrylaw09.SlotsKeeps", spec := "slotsKeeps", unfollowed := true, recurses := true, apart := false }
def SlotsKeepsSaid : Prop := slotsKeepsRow.holds Try.pinned (OpenSpec.ofChange slotsKeepsSpec)

/-- ITS FALSE NEIGHBOUR: 'it returns false'. Refute it at one input. -/
def slotsKeepsWrong : ChangeSpec := { name := "slotsKeeps", fn := fun _ => fun
  | [d] => { results := [.lit (.bool false)], args := [d] }
  | _ => none }
def SlotsKeepsWrongFalsely : Prop := slotsKeepsRow.holds Try.pinned (OpenSpec.ofChange slotsKeepsWrong)

/-- 'aumbrylaw09.SlotsTells': WHATEVER THE INPUT: true; the input reads as it did. -/
def slotsTellsSpec : ChangeSpec := { name := "slotsTells", fn := fun _ => fun
  | [d1, d2] => { results := [.lit (.bool true)], args := [d1, d2] }
  | _ => none }
def slotsTellsRow : OpenClaim := { program := "ytafigfgcgnnbnaa", sum := "b8a6deeba48bce1b252c9cc55943085442a90f753167f06100d03303cbbd2108", func := "aumbry/aumbrylaw09.SlotsTells", spec := "slotsTells", unfollowed := true, recurses := true, apart := false }
def SlotsTellsSaid : Prop := slotsTellsRow.holds Try.pinned (OpenSpec.ofChange slotsTellsSpec)

/-- ITS FALSE NEIGHBOUR: 'it returns false'. Refute it at one input. -/
def slotsTellsWrong : ChangeSpec := { name := "slotsTells", fn := fun _ => fun
  | [d1, d2] => { results := [.lit (.bool false)], args := [d1, d2] }
  | _ => none }
def SlotsTellsWrongFalsely : Prop := slotsTellsRow.holds Try.pinned (OpenSpec.ofChange slotsTellsWrong)

/-- 'aumbrylaw09.SlotsOnce': WHATEVER THE INPUT: true; the input reads as it did. -/
def slotsOnceSpec : ChangeSpec := { name := "slotsOnce", fn := fun _ => fun
  | [d] => { results := [.lit (.bool true)], args := [d] }
  | _ => none }
def slotsOnceRow : OpenClaim := { program := "ytafigfgcgnnbnaa", sum := "b8a6deeba48bce1b252c9cc55943085442a90f753167f06100d03303cbbd2108", func := "aumbry/aumbrylaw09.SlotsOnce", spec := "slotsOnce", unfollowed := true, recurses := true, apart := false }
def SlotsOnceSaid : Prop := slotsOnceRow.holds Try.pinned (OpenSpec.ofChange slotsOnceSpec)

/-- ITS FALSE NEIGHBOUR: 'it returns false'. Refute it at one input. -/
def slotsOnceWrong : ChangeSpec := { name := "slotsOnce", fn := fun _ => fun
  | [d] => { results := [.lit (.bool false)], args := [d] }
  | _ => none }
def SlotsOnceWrongFalsely : Prop := slotsOnceRow.holds Try.pinned (OpenSpec.ofChange slotsOnceWrong)

/- THE SECOND FORM. 'bulk': how many values and letters a reading holds, each counted each time it is reached (what is shared counts as often as it is met; a slice's spare places count too). A statement '..UptoSaid' is the law's where the arguments, and the package variables that the reading takes, are together of bulk at most 1048576: NARROWER than '..Said'. Prove '..Said' where nothing that the law and all that it calls make is longer than what came in: it says more and counts as full. Else prove '..UptoSaid'. A law counts once. -/
mutual
def uptoBulk {H : Type} : DataW H → Nat
  | .lit (.string bytes) => bytes.length + 1
  | .lit _ => 1
  | .nil => 1
  | .ptr d => uptoBulk d + 1
  | .slice elems spare => uptoBulkAll elems + uptoBulkAll spare + 1
  | .agg parts => uptoBulkAll parts + 1
  | .iface _ d => uptoBulk d + 1
  | .map entries => uptoBulkEntries entries + 1
  | .held _ => 1
def uptoBulkAll {H : Type} : List (DataW H) → Nat
  | [] => 0
  | d :: r => uptoBulk d + uptoBulkAll r
def uptoBulkEntries {H : Type} : List (Lit × DataW H) → Nat
  | [] => 0
  | x :: r => uptoBulkEntry x + uptoBulkEntries r
def uptoBulkEntry {H : Type} : Lit × DataW H → Nat
  | (.string bytes, d) => bytes.length + uptoBulk d + 1
  | (_, d) => uptoBulk d + 1
 end
def uptoSmall : (H : Type) → List (DataW H) → Bool := fun _ ds => decide (uptoBulkAll ds ≤ 1048576)
def OpenSpec.upto (s : _root_.Go.ChangeSpec) : _root_.Go.OpenSpec := { _root_.Go.OpenSpec.ofChange s with cond := some uptoSmall }

/-- 'aumbrylaw09.SlotsPuts', WHERE WHAT IT READS IS OF BULK AT MOST 1048576: true; the input reads as it did. -/
def slotsPutsUptoRow : OpenClaim := { program := "ytafigfgcgnnbnaa", sum := "b8a6deeba48bce1b252c9cc55943085442a90f753167f06100d03303cbbd2108", func := "aumbry/aumbrylaw09.SlotsPuts", spec := "slotsPuts", unfollowed := true, recurses := true, apart := false, narrowed := true }
def SlotsPutsUptoSaid : Prop := slotsPutsUptoRow.holds Try.pinned (OpenSpec.upto slotsPutsSpec)

/-- 'aumbrylaw09.SlotsDrops', WHERE WHAT IT READS IS OF BULK AT MOST 1048576: true; the input reads as it did. -/
def slotsDropsUptoRow : OpenClaim := { program := "ytafigfgcgnnbnaa", sum := "b8a6deeba48bce1b252c9cc55943085442a90f753167f06100d03303cbbd2108", func := "aumbry/aumbrylaw09.SlotsDrops", spec := "slotsDrops", unfollowed := true, recurses := true, apart := false, narrowed := true }
def SlotsDropsUptoSaid : Prop := slotsDropsUptoRow.holds Try.pinned (OpenSpec.upto slotsDropsSpec)

/-- 'aumbrylaw09.SlotsRoom', WHERE WHAT IT READS IS OF BULK AT MOST 1048576: true; the input reads as it did. -/
def slotsRoomUptoRow : OpenClaim := { program := "ytafigfgcgnnbnaa", sum := "b8a6deeba48bce1b252c9cc55943085442a90f753167f06100d03303cbbd2108", func := "aumbry/aumbrylaw09.SlotsRoom", spec := "slotsRoom", unfollowed := true, recurses := true, apart := false, narrowed := true }
def SlotsRoomUptoSaid : Prop := slotsRoomUptoRow.holds Try.pinned (OpenSpec.upto slotsRoomSpec)

/-- 'aumbrylaw09.SlotsKeeps', WHERE WHAT IT READS IS OF BULK AT MOST 1048576: true; the input reads as it did. -/
def slotsKeepsUptoRow : OpenClaim := { program := "ytafigfgcgnnbnaa", sum := "b8a6deeba48bce1b252c9cc55943085442a90f753167f06100d03303cbbd2108", func := "aumbry/aumbrylaw09.SlotsKeeps", spec := "slotsKeeps", unfollowed := true, recurses := true, apart := false, narrowed := true }
def SlotsKeepsUptoSaid : Prop := slotsKeepsUptoRow.holds Try.pinned (OpenSpec.upto slotsKeepsSpec)

/-- 'aumbrylaw09.SlotsTells', WHERE WHAT IT READS IS OF BULK AT MOST 1048576: true; the input reads as it did. -/
def slotsTellsUptoRow : OpenClaim := { program := "ytafigfgcgnnbnaa", sum := "b8a6deeba48bce1b252c9cc55943085442a90f753167f06100d03303cbbd2108", func := "aumbry/aumbrylaw09.SlotsTells", spec := "slotsTells", unfollowed := true, recurses := true, apart := false, narrowed := true }
def SlotsTellsUptoSaid : Prop := slotsTellsUptoRow.holds Try.pinned (OpenSpec.upto slotsTellsSpec)

/-- 'aumbrylaw09.SlotsOnce', WHERE WHAT IT READS IS OF BULK AT MOST 1048576: true; the input reads as it did. -/
def slotsOnceUptoRow : OpenClaim := { program := "ytafigfgcgnnbnaa", sum := "b8a6deeba48bce1b252c9cc55943085442a90f753167f06100d03303cbbd2108", func := "aumbry/aumbrylaw09.SlotsOnce", spec := "slotsOnce", unfollowed := true, recurses := true, apart := false, narrowed := true }
def SlotsOnceUptoSaid : Prop := slotsOnceUptoRow.holds Try.pinned (OpenSpec.upto slotsOnceSpec)

end Rows
end Go.Proofs.Ytafigfgcgnnbnaa
