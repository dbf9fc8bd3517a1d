/-
  No cell of these rows narrows 'for every input' (looked for: loops, veiled, ifaces, maps, wideKeys, modest, calm, conditions, laid).
  DERIVED. THE GIVEN ROWS OF THIS SEAT. 10 by the template 'for every input the law returns true; each argument reads behind the call as it read before'; 0 by the template 'total and deterministic' (their statements: YtaofgdibpbpalaaTotals.lean).
  GIVEN WITH THE SEED: the statements are not yours to turn. If you find one false, say at which input.
  Laid BY PROGRAM, IN A SANDBOX (cutbox-rows.mjs): the forced cells as the released guide's own fill.sh prints them over the translation 29d359110d122e42… (all of the seat's roots in one cut). By AI agents, Wed Nov 11 2026. No macro, syntax, notation, axiom, sorry.
-/
import Derived.Test.YtaofgdibpbpalaaChecked
import GoSem.Claim
import GoSem.ClaimJoined
import GoSem.ClaimMapViews
import Derived.JoinedTies
import Derived.KernelRfl
namespace Go.Proofs.Ytaofgdibpbpalaa
/- THE CELL 'sum', in the pinned program and in every row, IS THE sha256 OF THE DUMP (.gsa) THAT YtaofgdibpbpalaaProg.lean LOADS. Nothing in Lean hashes anything: it is a label: what it is worth is what the hold of that sum in a sandbox is worth. -/
noncomputable def Try.pinned : Pinned := { name := "ytaofgdibpbpalaa", sum := "29d359110d122e42eab0c0e56ef333eb7bb16e642612dfa064064d1a6c3bd077", checked := Try.checked }
namespace Rows
def none {H : Type} : Left H := { results := [], args := [] }

/-- 'parapetlaw26.CallNames': WHATEVER THE INPUT: true; the input reads as it did. -/
def callNamesSpec : ChangeSpec := { name := "callNames", fn := fun _ => fun
  | [] => { results := [.lit (.bool true)], args := [] }
  | _ => none }
def callNamesRow : OpenClaim := { program := "ytaofgdibpbpalaa", sum := "29d359110d122e42eab0c0e56ef333eb7bb16e642612dfa064064d1a6c3bd077", func := "parapet/parapetlaw26.CallNames", spec := "callNames", unfollowed := true, recurses := true, plainKeys := false, apart := false }
def CallNamesSaid : Prop := callNamesRow.holds Try.pinned (OpenSpec.ofChange callNamesSpec)

/-- ITS FALSE NEIGHBOUR: 'it returns false'. Refute it at one input. -/
def callNamesWrong : ChangeSpec := { name := "callNames", fn := fun _ => fun
  | [] => { results := [.lit (.bool false)], args := [] }
  | _ => none }
def CallNamesWrongFalsely : Prop := callNamesRow.holds Try.pinned (OpenSpec.ofChange callNamesWrong)

/-- 'parapetlaw23.ImageParses': WHATEVER THE INPUT: true; the input reads as it did. -/
def imageParsesSpec : ChangeSpec := { name := "imageParses", fn := fun _ => fun
  | [d] => { results := [.lit (.bool true)], args := [d] }
  | _ => none }
def imageParsesRow : OpenClaim := { program := "ytaofgdibpbpalaa", sum := "29d359110d122e42eab0c0e56ef333eb7bb16e642612dfa064064d1a6c3bd077", func := "parapet/parapetlaw23.ImageParses", spec := "imageParses", unfollowed := true, recurses := true, plainKeys := false, apart := false }
def ImageParsesSaid : Prop := imageParsesRow.holds Try.pinned (OpenSpec.ofChange imageParsesSpec)

/-- ITS FALSE NEIGHBOUR: 'it returns false'. Refute it at one input. -/
def imageParsesWrong : ChangeSpec := { name := "imageParses", fn := fun _ => fun
  | [d] => { results := [.lit (.bool false)], args := [d] }
  | _ => none }
def ImageParsesWrongFalsely : Prop := imageParsesRow.holds Try.pinned (OpenSpec.ofChange imageParsesWrong)

/-- 'parapetlaw23.ImageLonger': WHATEVER THE INPUT: true; the input reads as it did. -/
def imageLongerSpec : ChangeSpec := { name := "imageLonger", fn := fun _ => fun
  | [d1, d2, d3] => { results := [.lit (.bool true)], args := [d1, d2, d3] }
  | _ => none }
def imageLongerRow : OpenClaim := { program := "ytaofgdibpbpalaa", sum := "29d359110d122e42eab0c0e56ef333eb7bb16e642612dfa064064d1a6c3bd077", func := "parapet/parapetlaw23.ImageLonger", spec := "imageLonger", unfollowed := true, recurses := true, plainKeys := false, apart := false }
def ImageLongerSaid : Prop := imageLongerRow.holds Try.pinned (OpenSpec.ofChange imageLongerSpec)

/-- ITS FALSE NEIGHBOUR: 'it returns false'. Refute it at one input. -/
def imageLongerWrong : ChangeSpec := { name := "imageLonger", fn := fun _ => fun
  | [d1, d2, d3] => { results := [.lit (.bool false)], args := [d1, d2, d3] }
  | _ => none }
def ImageLongerWrongFalsely : Prop := imageLongerRow.holds Try.pinned (OpenSpec.ofChange imageLongerWrong)

/-- 'parapetlaw26.CallDecodes': WHATEVER THE INPUT: true; the input reads as it did. -/
def callDecodesSpec : ChangeSpec := { name := "callDecodes", fn := fun _ => fun
  | [d] => { results := [.lit (.bool true)], args := [d] }
  | _ => none }
def callDecodesRow : OpenClaim := { program := "ytaofgdibpbpalaa", sum := "29d359110d122e42eab0c0e56ef333eb7bb16e642612dfa064064d1a6c3bd077", func := "parapet/parapetlaw26.CallDecodes", spec := "callDecodes", unfollowed := true, recurses := true, plainKeys := false, apart := false }
def CallDecodesSaid : Prop := callDecodesRow.holds Try.pinned (OpenSpec.ofChange callDecodesSpec)

/-- ITS FALSE NEIGHBOUR: 'it returns false'. Refute it at one input. -/
def callDecodesWrong : ChangeSpec := { name := "callDecodes", fn := fun _ => fun
  | [d] => { results := [.lit (.bool false)], args := [d] }
  | _ => none }
def CallDecodesWrongFalsely : Prop := callDecodesRow.holds Try.pinned (OpenSpec.ofChange callDecodesWrong)

/-- 'parapetlaw26.CallTells': WHATEVER THE INPUT: true; the input reads as it did. -/
def callTellsSpec : ChangeSpec := { name := "callTells", fn := fun _ => fun
  | [d1, d2, d3] => { results := [.lit (.bool true)], args := [d1, d2, d3] }
  | _ => none }
def callTellsRow : OpenClaim := { program := "ytaofgdibpbpalaa", sum := "29d359110d122e42eab0c0e56ef333eb7bb16e642612dfa064064d1a6c3bd077", func := "parapet/parapetlaw26.CallTells", spec := "callTells", unfollowed := true, recurses := true, plainKeys := false, apart := false }
def CallTellsSaid : Prop := callTellsRow.holds Try.pinned (OpenSpec.ofChange callTellsSpec)

/-- ITS FALSE NEIGHBOUR: 'it returns false'. Refute it at one input. -/
def callTellsWrong : ChangeSpec := { name := "callTells", fn := fun _ => fun
  | [d1, d2, d3] => { results := [.lit (.bool false)], args := [d1, d2, d3] }
  | _ => none }
def CallTellsWrongFalsely : Prop := callTellsRow.holds Try.pinned (OpenSpec.ofChange callTellsWrong)

/-- 'parapetlaw26.CallTable': WHATEVER THE INPUT: true; the input reads as it did. -/
def callTableSpec : ChangeSpec := { name := "callTable", fn := fun _ => fun
  | [d1, d2] => { results := [.lit (.bool true)], args := [d1, d2] }
  | _ => none }
def callTableRow : OpenClaim := { program := "ytaofgdibpbpalaa", sum := "29d359110d122e42eab0c0e56ef333eb7bb16e642612dfa064064d1a6c3bd077", func := "parapet/parapetlaw26.CallTable", spec := "callTable", unfollowed := true, recurses := true, plainKeys := false, apart := false }
def CallTableSaid : Prop := callTableRow.holds Try.pinned (OpenSpec.ofChange callTableSpec)

/-- ITS FALSE NEIGHBOUR: 'it returns false'. Refute it at one input. -/
def callTableWrong : ChangeSpec := { name := "callTable", fn := fun _ => fun
  | [d1, d2] => { results := [.lit (.bool false)], args := [d1, d2] }
  | _ => none }
def CallTableWrongFalsely : Prop := callTableRow.holds Try.pinned (OpenSpec.ofChange callTableWrong)

/-- 'parapetlaw26.CallErrors': WHATEVER THE INPUT: true; the input reads as it did. -/
def callErrorsSpec : ChangeSpec := { name := "callErrors", fn := fun _ => fun
  | [d1, d2] => { results := [.lit (.bool true)], args := [d1, d2] }
  | _ => none }
def callErrorsRow : OpenClaim := { program := "ytaofgdibpbpalaa", sum := "29d359110d122e42eab0c0e56ef333eb7bb16e642612dfa064064d1a6c3bd077", func := "parapet/parapetlaw26.CallErrors", spec := "callErrors", unfollowed := true, recurses := true, plainKeys := false, apart := false }
def CallErrorsSaid : Prop := callErrorsRow.holds Try.pinned (OpenSpec.ofChange callErrorsSpec)

/-- ITS FALSE NEIGHBOUR: 'it returns false'. Refute it at one input. -/
def callErrorsWrong : ChangeSpec := { name := "callErrors", fn := fun _ => fun
  | [d1, d2] => { results := [.lit (.bool false)], args := [d1, d2] }
  | _ => none }
def CallErrorsWrongFalsely : Prop := callErrorsRow.holds Try.pinned (OpenSpec.ofChange callErrorsWrong)

/-- 'parapetlaw23.ImageMakes': WHATEVER THE INPUT: true; the input reads as it did. -/
def imageMakesSpec : ChangeSpec := { name := "imageMakes", fn := fun _ => fun
  | [d] => { results := [.lit (.bool true)], args := [d] }
  | _ => none }
def imageMakesRow : OpenClaim := { program := "ytaofgdibpbpalaa", sum := "29d359110d122e42eab0c0e56ef333eb7bb16e642612dfa064064d1a6c3bd077", func := "parapet/parapetlaw23.ImageMakes", spec := "imageMakes", unfollowed := true, recurses := true, plainKeys := false, apart := false }
def ImageMakesSaid : Prop := imageMakesRow.holds Try.pinned (OpenSpec.ofChange imageMakesSpec)

/-- ITS FALSE NEIGHBOUR: 'it returns false'. Refute it at one input. -/
def imageMakesWrong : ChangeSpec := { name := "imageMakes", fn := fun _ => fun
  | [d] => { results := [.lit (.bool false)], args := [d] }
  | _ => none }
def ImageMakesWrongFalsely : Prop := imageMakesRow.holds Try.pinned (OpenSpec.ofChange imageMakesWrong)

/-- 'parapetlaw23.ImageNobody': WHATEVER THE INPUT: true; the input reads as it did. -/
def imageNobodySpec : ChangeSpec := { name := "imageNobody", fn := fun _ => fun
  | [d] => { results := [.lit (.bool true)], args := [d] }
  | _ => none }
def imageNobodyRow : OpenClaim := { program := "ytaofgdibpbpalaa", sum := "29d359110d122e42eab0c0e56ef333eb7bb16e642612dfa064064d1a6c3bd077", func := "parapet/parapetlaw23.ImageNobody", spec := "imageNobody", unfollowed := true, recurses := true, plainKeys := false, apart := false }
def ImageNobodySaid : Prop := imageNobodyRow.holds Try.pinned (OpenSpec.ofChange imageNobodySpec)

/-- ITS FALSE NEIGHBOUR: 'it returns false'. Refute it at one input. -/
def imageNobodyWrong : ChangeSpec := { name := "imageNobody", fn := fun _ => fun
  | [d] => { results := [.lit (.bool false)], args := [d] }
  | _ => none }
def ImageNobodyWrongFalsely : Prop := imageNobodyRow.holds Try.pinned (OpenSpec.ofChange imageNobodyWrong)

/-- 'parapetlaw23.ImageLays': WHATEVER THE INPUT: true; the input reads as it did. -/
def imageLaysSpec : ChangeSpec := { name := "imageLays", fn := fun _ => fun
  | [d1, d2, d3] => { results := [.lit (.bool true)], args := [d1, d2, d3] }
  | _ => none }
def imageLaysRow : OpenClaim := { program := "ytaofgdibpbpalaa", sum := "29d359110d122e42eab0c0e56ef333eb7bb16e642612dfa064064d1a6c3bd077", func := "parapet/parapetlaw23.ImageLays", spec := "imageLays", unfollowed := true, recurses := true, plainKeys := false, apart := false }
def ImageLaysSaid : Prop := imageLaysRow.holds Try.pinned (OpenSpec.ofChange imageLaysSpec)

/-- ITS FALSE NEIGHBOUR: 'it returns false'. Refute it at one input. -/
def imageLaysWrong : ChangeSpec := { name := "imageLays", fn := fun _ => fun
  | [d1, d2, d3] => { results := [.lit (.bool false)], args := [d1, d2, d3] }
  | _ => none }
def ImageLaysWrongFalsely : Prop := imageLaysRow.holds Try.pinned (OpenSpec.ofChange imageLaysWrong)

/- THE SECOND FORM. 'bulk': how many values and letters a reading holds, each counted each time it is reached (what is shared counts as often as it is met; a slice's spare places count too). A statement '..UptoSaid' is the law's where the arguments, and the package variables that the reading takes, are together of bulk at most 1048576: NARROWER than '..Said'. Prove '..Said' where nothing that the law and all that it calls make is longer than what came in: it says more and counts as full. Else prove '..UptoSaid'. A law counts once. -/
mutual
def uptoBulk {H : Type} : DataW H → Nat
  | .lit (.string bytes) => bytes.length + 1
  | .lit _ => 1
  | .nil => 1
  | .ptr d => uptoBulk d + 1
  | .slice elems spare => uptoBulkAll elems + uptoBulkAll spare + 1
  | .agg parts => uptoBulkAll parts + 1
  | .iface _ d => uptoBulk d + 1
  | .map entries => uptoBulkEntries entries + 1
  | .held _ => 1
def uptoBulkAll {H : Type} : List (DataW H) → Nat
  | [] => 0
  | d :: r => uptoBulk d + uptoBulkAll r
def uptoBulkEntries {H : Type} : List (Lit × DataW H) → Nat
  | [] => 0
  | x :: r => uptoBulkEntry x + uptoBulkEntries r
def uptoBulkEntry {H : Type} : Lit × DataW H → Nat
  | (.string bytes, d) => bytes.length + uptoBulk d + 1
  | (_, d) => uptoBulk d + 1
 end
def uptoSmall : (H : Type) → List (DataW H) → Bool := fun _ ds => decide (uptoBulkAll ds ≤ 1048576)
def OpenSpec.upto (s : _root_.Go.ChangeSpec) : _root_.Go.OpenSpec := { _root_.Go.OpenSpec.ofChange s with cond := some uptoSmall }

/-- 'parapetlaw26.CallNames', WHERE WHAT IT READS IS OF BULK AT MOST 1048576: true; the input reads as it did. -/
def callNamesUptoRow : OpenClaim := { program := "ytaofgdibpbpalaa", sum := "29d359110d122e42eab0c0e56ef333eb7bb16e642612dfa064064d1a6c3bd077", func := "parapet/parapetlaw26.CallNames", spec := "callNames", unfollowed := true, recurses := true, plainKeys := false, apart := false, narrowed := true }
def CallNamesUptoSaid : Prop := callNamesUptoRow.holds Try.pinned (OpenSpec.upto callNamesSpec)

/-- 'parapetlaw23.ImageParses', WHERE WHAT IT READS IS OF BULK AT MOST 1048576: true; the input reads as it did. -/
def imageParsesUptoRow : OpenClaim := { program := "ytaofgdibpbpalaa", sum := "29d359110d122e42eab0c0e56ef333eb7bb16e642612dfa064064d1a6c3bd077", func := "parapet/parapetlaw23.ImageParses", spec := "imageParses", unfollowed := true, recurses := true, plainKeys := false, apart := false, narrowed := true }
def ImageParsesUptoSaid : Prop := imageParsesUptoRow.holds Try.pinned (OpenSpec.upto imageParsesSpec)

/-- 'parapetlaw23.ImageLonger', WHERE WHAT IT READS IS OF BULK AT MOST 1048576: true; the input reads as it did. -/
def imageLongerUptoRow : OpenClaim := { program := "ytaofgdibpbpalaa", sum := "29d359110d122e42eab0c0e56ef333eb7bb16e642612dfa064064d1a6c3bd077", func := "parapet/parapetlaw23.ImageLonger", spec := "imageLonger", unfollowed := true, recurses := true, plainKeys := false, apart := false, narrowed := true }
def ImageLongerUptoSaid : Prop := imageLongerUptoRow.holds Try.pinned (OpenSpec.upto imageLongerSpec)

/-- 'parapetlaw26.CallDecodes', WHERE WHAT IT READS IS OF BULK AT MOST 1048576: true; the input reads as it did. -/
def callDecodesUptoRow : OpenClaim := { program := "ytaofgdibpbpalaa", sum := "29d359110d122e42eab0c0e56ef333eb7bb16e642612dfa064064d1a6c3bd077", func := "parapet/parapetlaw26.CallDecodes", spec := "callDecodes", unfollowed := true, recurses := true, plainKeys := false, apart := false, narrowed := true }
def CallDecodesUptoSaid : Prop := callDecodesUptoRow.holds Try.pinned (OpenSpec.upto callDecodesSpec)

/-- 'parapetlaw26.CallTells', WHERE WHAT IT READS IS OF BULK AT MOST 1048576: true; the input reads as it did. -/
def callTellsUptoRow : OpenClaim := { program := "ytaofgdibpbpalaa", sum := "29d359110d122e42eab0c0e56ef333eb7bb16e642612dfa064064d1a6c3bd077", func := "parapet/parapetlaw26.CallTells", spec := "callTells", unfollowed := true, recurses := true, plainKeys := false, apart := false, narrowed := true }
def CallTellsUptoSaid : Prop := callTellsUptoRow.holds Try.pinned (OpenSpec.upto callTellsSpec)

/-- 'parapetlaw26.CallTable', WHERE WHAT IT READS IS OF BULK AT MOST 1048576: true; the input reads as it did. -/
def callTableUptoRow : OpenClaim := { program := "ytaofgdibpbpalaa", sum := "29d359110d122e42eab0c0e56ef333eb7bb16e642612dfa064064d1a6c3bd077", func := "parapet/parapetlaw26.CallTable", spec := "callTable", unfollowed := true, recurses := true, plainKeys := false, apart := false, narrowed := true }
def CallTableUptoSaid : Prop := callTableUptoRow.holds Try.pinned (OpenSpec.upto callTableSpec)

/-- 'parapetlaw26.CallErrors', WHERE WHAT IT READS IS OF BULK AT MOST 1048576: true; the input reads as it did. -/
def callErrorsUptoRow : OpenClaim := { program := "ytaofgdibpbpalaa", sum := "29d359110d122e42eab0c0e56ef333eb7bb16e642612dfa064064d1a6c3bd077", func := "parapet/parapetlaw26.CallErrors", spec := "callErrors", unfollowed := true, recurses := true, plainKeys := false, apart := false, narrowed := true }
def CallErrorsUptoSaid : Prop := callErrorsUptoRow.holds Try.pinned (OpenSpec.upto callErrorsSpec)

/-- 'parapetlaw23.ImageMakes', WHERE WHAT IT READS IS OF BULK AT MOST 1048576: true; the input reads as it did. -/
def imageMakesUptoRow : OpenClaim := { program := "ytaofgdibpbpalaa", sum := "29d359110d122e42eab0c0e56ef333eb7bb16e642612dfa064064d1a6c3bd077", func := "parapet/parapetlaw23.ImageMakes", spec := "imageMakes", unfollowed := true, recurses := true, plainKeys := false, apart := false, narrowed := true }
def ImageMakesUptoSaid : Prop := imageMakesUptoRow.holds Try.pinned (OpenSpec.upto imageMakesSpec)

/-- 'parapetlaw23.ImageNobody', WHERE WHAT IT READS IS OF BULK AT MOST 1048576: true; the input reads as it did. -/
def imageNobodyUptoRow : OpenClaim := { program := "ytaofgdibpbpalaa", sum := "29d359110d122e42eab0c0e56ef333eb7bb16e642612dfa064064d1a6c3bd077", func := "parapet/parapetlaw23.ImageNobody", spec := "imageNobody", unfollowed := true, recurses := true, plainKeys := false, apart := false, narrowed := true }
def ImageNobodyUptoSaid : Prop := imageNobodyUptoRow.holds Try.pinned (OpenSpec.upto imageNobodySpec)

/-- 'parapetlaw23.ImageLays', WHERE WHAT IT READS IS OF BULK AT MOST 1048576: true; the input reads as it did. -/
def imageLaysUptoRow : OpenClaim := { program := "ytaofgdibpbpalaa", sum := "29d359110d122e42eab0c0e56ef333eb7bb16e642612dfa064064d1a6c3bd077", func := "parapet/parapetlaw23.ImageLays", spec := "imageLays", unfollowed := true, recurses := true, plainKeys := false, apart := false, narrowed := true }
def ImageLaysUptoSaid : Prop := imageLaysUptoRow.holds Try.pinned (OpenSpec.upto imageLaysSpec)

end Rows
end Go.Proofs.Ytaofgdibpbpalaa
