/-
  DERIVED. GIVEN WITH THE SEED: THE CARDS: each row of YthinkofjbabfbaaDoorRows.lean that lists a variable, with what it lists TIED to the program's text (the seventh form; the later family's looks); each row that meets fmt, with fmt's text TOLD by the authors' own Lean function (tested against real Go, not proved from fmt's source: count such statements apart). THE CARD IS WHAT COUNTS. Prove the row's statement (the work); the ties are given (YthinkofjbabfbaaDoorTie.lean); close each card by the builder's one call (the guide's Derived/Test/ToyasCard.lean, 'card_holds'). Laid BY PROGRAM, IN A SANDBOX (cutbox-door.mjs). By AI agents, Wed Nov 11 2026. No macro, syntax, notation, axiom, sorry.
-/
import Derived.Test.YthinkofjbabfbaaDoorRows
import GoSem.ClaimSeven
namespace Go.Proofs.YthinkofjbabfbaaDoor
namespace Rows

/-- THE TIED CARD OF 'parapetlaw19.NamecSplits'. -/
def namecSplitsCard : Claim7 := { stood := { row := namecSplitsRow, standIns := [], harness := (true, "60b9321e7ea49626f0514f132dc7e844e6d4718cc848a6b0882966417254af35"), looks := false }, kinds := [], alts := [], laidByText := true, laidKinds := [.data, .pinned], laidTests := true, laidLooks := .later }
def NamecSplitsCardSaid : Prop := Claim7.holds Tryd.pinned (.plain (OpenSpec.ofChange namecSplitsSpec)) namecSplitsCard

/-- THE TIED CARD OF 'parapetlaw19.NamecKeeps'. -/
def namecKeepsCard : Claim7 := { stood := { row := namecKeepsRow, standIns := [], harness := (true, "60b9321e7ea49626f0514f132dc7e844e6d4718cc848a6b0882966417254af35"), looks := false }, kinds := [], alts := [], laidByText := true, laidKinds := [.data, .pinned], laidTests := true, laidLooks := .later }
def NamecKeepsCardSaid : Prop := Claim7.holds Tryd.pinned (.plain (OpenSpec.ofChange namecKeepsSpec)) namecKeepsCard

/-- THE TIED CARD OF 'parapetlaw19.NamecReaders'. -/
def namecReadersCard : Claim7 := { stood := { row := namecReadersRow, standIns := [], harness := (true, "60b9321e7ea49626f0514f132dc7e844e6d4718cc848a6b0882966417254af35"), looks := false }, kinds := [], alts := [], laidByText := true, laidKinds := [.data, .pinned], laidTests := true, laidLooks := .later }
def NamecReadersCardSaid : Prop := Claim7.holds Tryd.pinned (.plain (OpenSpec.ofChange namecReadersSpec)) namecReadersCard

/-- THE TIED CARD OF 'parapetlaw18.DirentNames'. -/
def direntNamesCard : Claim7 := { stood := { row := direntNamesRow, standIns := [], harness := (true, "60b9321e7ea49626f0514f132dc7e844e6d4718cc848a6b0882966417254af35"), looks := false }, kinds := [], alts := [], laidByText := true, laidKinds := [.data, .pinned], laidTests := true, laidLooks := .later }
def DirentNamesCardSaid : Prop := Claim7.holds Tryd.pinned (.plain (OpenSpec.ofChange direntNamesSpec)) direntNamesCard

/-- THE TIED CARD OF 'parapetlaw18.DirentGrows'. -/
def direntGrowsCard : Claim7 := { stood := { row := direntGrowsRow, standIns := [], harness := (true, "60b9321e7ea49626f0514f132dc7e844e6d4718cc848a6b0882966417254af35"), looks := false }, kinds := [], alts := [], laidByText := true, laidKinds := [.data, .pinned], laidTests := true, laidLooks := .later }
def DirentGrowsCardSaid : Prop := Claim7.holds Tryd.pinned (.plain (OpenSpec.ofChange direntGrowsSpec)) direntGrowsCard

/-- THE TIED CARD OF 'parapetlaw18.DirentMaps'. -/
def direntMapsCard : Claim7 := { stood := { row := direntMapsRow, standIns := [], harness := (true, "60b9321e7ea49626f0514f132dc7e844e6d4718cc848a6b0882966417254af35"), looks := false }, kinds := [], alts := [], laidByText := true, laidKinds := [.data, .pinned], laidTests := true, laidLooks := .later }
def DirentMapsCardSaid : Prop := Claim7.holds Tryd.pinned (.plain (OpenSpec.ofChange direntMapsSpec)) direntMapsCard

/-- THE TIED CARD OF 'parapetlaw18.DirentDoes'. -/
def direntDoesCard : Claim7 := { stood := { row := direntDoesRow, standIns := [], harness := (true, "60b9321e7ea49626f0514f132dc7e844e6d4718cc848a6b0882966417254af35"), looks := false }, kinds := [], alts := [], laidByText := true, laidKinds := [.data, .pinned], laidTests := true, laidLooks := .later }
def DirentDoesCardSaid : Prop := Claim7.holds Tryd.pinned (.plain (OpenSpec.ofChange direntDoesSpec)) direntDoesCard

/-- THE TIED CARD OF 'parapetlaw19.NamecNobody'. -/
def namecNobodyCard : Claim7 := { stood := { row := namecNobodyRow, standIns := [], harness := (true, "60b9321e7ea49626f0514f132dc7e844e6d4718cc848a6b0882966417254af35"), looks := false }, kinds := [], alts := [], laidByText := true, laidKinds := [.data, .pinned], laidTests := true, laidLooks := .later }
def NamecNobodyCardSaid : Prop := Claim7.holds Tryd.pinned (.plain (OpenSpec.ofChange namecNobodySpec)) namecNobodyCard

/-- THE SECOND FORM's CARD OF 'parapetlaw19.NamecSplits'. -/
def namecSplitsUptoCard : Claim7 := { stood := { row := namecSplitsUptoRow, standIns := [], harness := (true, "60b9321e7ea49626f0514f132dc7e844e6d4718cc848a6b0882966417254af35"), looks := false }, kinds := [], alts := [], laidByText := true, laidKinds := [.data, .pinned], laidTests := true, laidLooks := .later }
def NamecSplitsUptoCardSaid : Prop := Claim7.holds Tryd.pinned (.plain (OpenSpec.upto namecSplitsSpec)) namecSplitsUptoCard

/-- THE SECOND FORM's CARD OF 'parapetlaw19.NamecKeeps'. -/
def namecKeepsUptoCard : Claim7 := { stood := { row := namecKeepsUptoRow, standIns := [], harness := (true, "60b9321e7ea49626f0514f132dc7e844e6d4718cc848a6b0882966417254af35"), looks := false }, kinds := [], alts := [], laidByText := true, laidKinds := [.data, .pinned], laidTests := true, laidLooks := .later }
def NamecKeepsUptoCardSaid : Prop := Claim7.holds Tryd.pinned (.plain (OpenSpec.upto namecKeepsSpec)) namecKeepsUptoCard

/-- THE SECOND FORM's CARD OF 'parapetlaw19.NamecReaders'. -/
def namecReadersUptoCard : Claim7 := { stood := { row := namecReadersUptoRow, standIns := [], harness := (true, "60b9321e7ea49626f0514f132dc7e844e6d4718cc848a6b0882966417254af35"), looks := false }, kinds := [], alts := [], laidByText := true, laidKinds := [.data, .pinned], laidTests := true, laidLooks := .later }
def NamecReadersUptoCardSaid : Prop := Claim7.holds Tryd.pinned (.plain (OpenSpec.upto namecReadersSpec)) namecReadersUptoCard

/-- THE SECOND FORM's CARD OF 'parapetlaw18.DirentNames'. -/
def direntNamesUptoCard : Claim7 := { stood := { row := direntNamesUptoRow, standIns := [], harness := (true, "60b9321e7ea49626f0514f132dc7e844e6d4718cc848a6b0882966417254af35"), looks := false }, kinds := [], alts := [], laidByText := true, laidKinds := [.data, .pinned], laidTests := true, laidLooks := .later }
def DirentNamesUptoCardSaid : Prop := Claim7.holds Tryd.pinned (.plain (OpenSpec.upto direntNamesSpec)) direntNamesUptoCard

/-- THE SECOND FORM's CARD OF 'parapetlaw18.DirentGrows'. -/
def direntGrowsUptoCard : Claim7 := { stood := { row := direntGrowsUptoRow, standIns := [], harness := (true, "60b9321e7ea49626f0514f132dc7e844e6d4718cc848a6b0882966417254af35"), looks := false }, kinds := [], alts := [], laidByText := true, laidKinds := [.data, .pinned], laidTests := true, laidLooks := .later }
def DirentGrowsUptoCardSaid : Prop := Claim7.holds Tryd.pinned (.plain (OpenSpec.upto direntGrowsSpec)) direntGrowsUptoCard

/-- THE SECOND FORM's CARD OF 'parapetlaw18.DirentMaps'. -/
def direntMapsUptoCard : Claim7 := { stood := { row := direntMapsUptoRow, standIns := [], harness := (true, "60b9321e7ea49626f0514f132dc7e844e6d4718cc848a6b0882966417254af35"), looks := false }, kinds := [], alts := [], laidByText := true, laidKinds := [.data, .pinned], laidTests := true, laidLooks := .later }
def DirentMapsUptoCardSaid : Prop := Claim7.holds Tryd.pinned (.plain (OpenSpec.upto direntMapsSpec)) direntMapsUptoCard

/-- THE SECOND FORM's CARD OF 'parapetlaw18.DirentDoes'. -/
def direntDoesUptoCard : Claim7 := { stood := { row := direntDoesUptoRow, standIns := [], harness := (true, "60b9321e7ea49626f0514f132dc7e844e6d4718cc848a6b0882966417254af35"), looks := false }, kinds := [], alts := [], laidByText := true, laidKinds := [.data, .pinned], laidTests := true, laidLooks := .later }
def DirentDoesUptoCardSaid : Prop := Claim7.holds Tryd.pinned (.plain (OpenSpec.upto direntDoesSpec)) direntDoesUptoCard

/-- THE SECOND FORM's CARD OF 'parapetlaw19.NamecNobody'. -/
def namecNobodyUptoCard : Claim7 := { stood := { row := namecNobodyUptoRow, standIns := [], harness := (true, "60b9321e7ea49626f0514f132dc7e844e6d4718cc848a6b0882966417254af35"), looks := false }, kinds := [], alts := [], laidByText := true, laidKinds := [.data, .pinned], laidTests := true, laidLooks := .later }
def NamecNobodyUptoCardSaid : Prop := Claim7.holds Tryd.pinned (.plain (OpenSpec.upto namecNobodySpec)) namecNobodyUptoCard
end Rows
end Go.Proofs.YthinkofjbabfbaaDoor
