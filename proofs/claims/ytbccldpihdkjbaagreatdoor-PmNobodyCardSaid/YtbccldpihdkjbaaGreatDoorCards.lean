/-
  DERIVED. GIVEN WITH THE SEED: THE CARDS: each row of YtbccldpihdkjbaaGreatDoorRows.lean that lists a variable, with what it lists TIED to the program's text (the seventh form; the later family's looks); each row that meets fmt, with fmt's text TOLD by the authors' own Lean function (tested against real Go, not proved from fmt's source: count such statements apart). THE CARD IS WHAT COUNTS. Prove the row's statement (the work); the ties are given (YtbccldpihdkjbaaGreatDoorTie.lean); close each card by the builder's one call (the guide's Derived/Test/ToyasCard.lean, 'card_holds'). Laid BY PROGRAM, IN A SANDBOX (cutbox-door.mjs). By AI agents, Wed Nov 11 2026. No macro, syntax, notation, axiom, sorry.
-/
import Derived.Test.YtbccldpihdkjbaaGreatDoorRows
import GoSem.ClaimSeven
namespace Go.Proofs.YtbccldpihdkjbaaGreatDoor
namespace Rows

/-- THE TIED CARD OF 'parapetlaw25.PmNobody'. -/
def pmNobodyCard : Claim7 := { stood := { row := pmNobodyRow, standIns := [], harness := (true, "9e3d6000ec0f9b96f0019452bf5d9c3ac555aa12f98e3faa6456125c6db4234c"), looks := true }, kinds := [], alts := [], laidByText := true, laidKinds := [.data, .pinned], laidTests := true, laidLooks := .later }
def PmNobodyCardSaid : Prop := Claim7.holds Tryz.pinned (.plain (OpenSpec.ofChange pmNobodySpec)) pmNobodyCard

/-- THE SECOND FORM's CARD OF 'parapetlaw25.PmNobody'. -/
def pmNobodyUptoCard : Claim7 := { stood := { row := pmNobodyUptoRow, standIns := [], harness := (true, "9e3d6000ec0f9b96f0019452bf5d9c3ac555aa12f98e3faa6456125c6db4234c"), looks := true }, kinds := [], alts := [], laidByText := true, laidKinds := [.data, .pinned], laidTests := true, laidLooks := .later }
def PmNobodyUptoCardSaid : Prop := Claim7.holds Tryz.pinned (.plain (OpenSpec.upto pmNobodySpec)) pmNobodyUptoCard
end Rows
end Go.Proofs.YtbccldpihdkjbaaGreatDoor
