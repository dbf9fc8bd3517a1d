/-
  NARROWER THAN 'FOR EVERY INPUT', by the rows' own cells (each row's printed sentence says how): NamecSplits: laid · NamecKeeps: laid · NamecReaders: laid · DirentNames: laid · DirentGrows: laid · DirentMaps: laid · DirentDoes: laid · NamecNobody: laid.
  DERIVED. THE GIVEN ROWS OF THIS SEAT. 8 by the template 'for every input the law returns true; each argument reads behind the call as it read before'; 0 by the template 'total and deterministic' (their statements: YthinkofjbabfbaaDoorTotals.lean).
  GIVEN WITH THE SEED: the statements are not yours to turn. If you find one false, say at which input.
  Laid BY PROGRAM, IN A SANDBOX (cutbox-rows.mjs): the forced cells as the released guide's own fill.sh prints them over the translation d96d722c663e4519… (all of the seat's roots in one cut). By AI agents, Wed Nov 11 2026. No macro, syntax, notation, axiom, sorry.
-/
import Derived.Test.YthinkofjbabfbaaDoorChecked
import GoSem.PinnedTables
import GoSem.Claim
import GoSem.ClaimJoined
import GoSem.ClaimMapViews
import Derived.JoinedTies
import Derived.KernelRfl
namespace Go.Proofs.YthinkofjbabfbaaDoor
/- THE CELL 'sum', in the pinned program and in every row, IS THE sha256 OF THE DUMP (.gsa) THAT YthinkofjbabfbaaDoorProg.lean LOADS. Nothing in Lean hashes anything: it is a label: what it is worth is what the hold of that sum in a sandbox is worth. -/
noncomputable def Tryd.pinned : Pinned := { name := "ythinkofjbabfbaadoor", sum := "d96d722c663e45196acc8ede39b5dac0eedc048ea8daf6bc70e4f34a0ecde586", checked := Tryd.checked }
namespace Rows
def none {H : Type} : Left H := { results := [], args := [] }

/- WHAT THE LISTED PACKAGE-LEVEL VARIABLES READ AS WHEN THE CALL BEGINS. Each datum BY PROGRAM (the guide's laid-datum.mjs) off the statement by which the dump's own 'gosem.cut.vars' lays the variable. In a bare row this is a premise. The card (YthinkofjbabfbaaDoorCards.lean) ties it to the program's text. -/
def laid_unicode_utf8_acceptRanges {H : Type} : DataW H := .agg [.agg [.lit (.int .u8 128), .lit (.int .u8 191)], .agg [.lit (.int .u8 160), .lit (.int .u8 191)], .agg [.lit (.int .u8 128), .lit (.int .u8 159)], .agg [.lit (.int .u8 144), .lit (.int .u8 191)], .agg [.lit (.int .u8 128), .lit (.int .u8 143)], .agg [.lit (.int .u8 0), .lit (.int .u8 0)], .agg [.lit (.int .u8 0), .lit (.int .u8 0)], .agg [.lit (.int .u8 0), .lit (.int .u8 0)], .agg [.lit (.int .u8 0), .lit (.int .u8 0)], .agg [.lit (.int .u8 0), .lit (.int .u8 0)], .agg [.lit (.int .u8 0), .lit (.int .u8 0)], .agg [.lit (.int .u8 0), .lit (.int .u8 0)], .agg [.lit (.int .u8 0), .lit (.int .u8 0)], .agg [.lit (.int .u8 0), .lit (.int .u8 0)], .agg [.lit (.int .u8 0), .lit (.int .u8 0)], .agg [.lit (.int .u8 0), .lit (.int .u8 0)]]
/-- One of Go's own tables, pinned by name: the form's constant. -/
def laid_unicode_utf8_first : DataW Unit := Go.Pinned.utf8First

/-- 'parapetlaw19.NamecSplits': WHATEVER THE INPUT: true; the input reads as it did. -/
def namecSplitsSpec : ChangeSpec := { name := "namecSplits", fn := fun _ => fun
  | [d] => { results := [.lit (.bool true)], args := [d] }
  | _ => none }
def namecSplitsRow : OpenClaim := { program := "ythinkofjbabfbaadoor", sum := "d96d722c663e45196acc8ede39b5dac0eedc048ea8daf6bc70e4f34a0ecde586", func := "parapet/parapetlaw19.NamecSplits", spec := "namecSplits", inPlace := ["internal/bytealg.IndexByteString", "internal/bytealg.CountString", "internal/bytealg.IndexString"], unfollowed := true, recurses := true, named := ["unicode/utf8.first", "unicode/utf8.acceptRanges", "internal/bytealg.MaxLen"], plainKeys := false, apart := false, laid := [("unicode/utf8.acceptRanges", laid_unicode_utf8_acceptRanges), ("unicode/utf8.first", laid_unicode_utf8_first)] }
def NamecSplitsSaid : Prop := namecSplitsRow.holds Tryd.pinned (OpenSpec.ofChange namecSplitsSpec)

/-- ITS FALSE NEIGHBOUR: 'it returns false'. Refute it at one input. -/
def namecSplitsWrong : ChangeSpec := { name := "namecSplits", fn := fun _ => fun
  | [d] => { results := [.lit (.bool false)], args := [d] }
  | _ => none }
def NamecSplitsWrongFalsely : Prop := namecSplitsRow.holds Tryd.pinned (OpenSpec.ofChange namecSplitsWrong)

/-- 'parapetlaw19.NamecKeeps': WHATEVER THE INPUT: true; the input reads as it did. -/
def namecKeepsSpec : ChangeSpec := { name := "namecKeeps", fn := fun _ => fun
  | [d1, d2] => { results := [.lit (.bool true)], args := [d1, d2] }
  | _ => none }
def namecKeepsRow : OpenClaim := { program := "ythinkofjbabfbaadoor", sum := "d96d722c663e45196acc8ede39b5dac0eedc048ea8daf6bc70e4f34a0ecde586", func := "parapet/parapetlaw19.NamecKeeps", spec := "namecKeeps", inPlace := ["internal/bytealg.IndexByteString", "internal/bytealg.CountString", "internal/bytealg.IndexString"], unfollowed := true, recurses := true, named := ["unicode/utf8.first", "unicode/utf8.acceptRanges", "internal/bytealg.MaxLen"], plainKeys := false, apart := false, laid := [("unicode/utf8.acceptRanges", laid_unicode_utf8_acceptRanges), ("unicode/utf8.first", laid_unicode_utf8_first)] }
def NamecKeepsSaid : Prop := namecKeepsRow.holds Tryd.pinned (OpenSpec.ofChange namecKeepsSpec)

/-- ITS FALSE NEIGHBOUR: 'it returns false'. Refute it at one input. -/
def namecKeepsWrong : ChangeSpec := { name := "namecKeeps", fn := fun _ => fun
  | [d1, d2] => { results := [.lit (.bool false)], args := [d1, d2] }
  | _ => none }
def NamecKeepsWrongFalsely : Prop := namecKeepsRow.holds Tryd.pinned (OpenSpec.ofChange namecKeepsWrong)

/-- 'parapetlaw19.NamecReaders': WHATEVER THE INPUT: true; the input reads as it did. -/
def namecReadersSpec : ChangeSpec := { name := "namecReaders", fn := fun _ => fun
  | [d] => { results := [.lit (.bool true)], args := [d] }
  | _ => none }
def namecReadersRow : OpenClaim := { program := "ythinkofjbabfbaadoor", sum := "d96d722c663e45196acc8ede39b5dac0eedc048ea8daf6bc70e4f34a0ecde586", func := "parapet/parapetlaw19.NamecReaders", spec := "namecReaders", inPlace := ["internal/bytealg.IndexByteString", "internal/bytealg.CountString", "internal/bytealg.IndexString"], unfollowed := true, recurses := true, named := ["unicode/utf8.first", "unicode/utf8.acceptRanges", "internal/bytealg.MaxLen"], plainKeys := false, apart := false, laid := [("unicode/utf8.acceptRanges", laid_unicode_utf8_acceptRanges), ("unicode/utf8.first", laid_unicode_utf8_first)] }
def NamecReadersSaid : Prop := namecReadersRow.holds Tryd.pinned (OpenSpec.ofChange namecReadersSpec)

/-- ITS FALSE NEIGHBOUR: 'it returns false'. Refute it at one input. -/
def namecReadersWrong : ChangeSpec := { name := "namecReaders", fn := fun _ => fun
  | [d] => { results := [.lit (.bool false)], args := [d] }
  | _ => none }
def NamecReadersWrongFalsely : Prop := namecReadersRow.holds Tryd.pinned (OpenSpec.ofChange namecReadersWrong)

/-- 'parapetlaw18.DirentNames': WHATEVER THE INPUT: true; the input reads as it did. -/
def direntNamesSpec : ChangeSpec := { name := "direntNames", fn := fun _ => fun
  | [d] => { results := [.lit (.bool true)], args := [d] }
  | _ => none }
def direntNamesRow : OpenClaim := { program := "ythinkofjbabfbaadoor", sum := "d96d722c663e45196acc8ede39b5dac0eedc048ea8daf6bc70e4f34a0ecde586", func := "parapet/parapetlaw18.DirentNames", spec := "direntNames", inPlace := ["internal/bytealg.IndexByteString", "internal/bytealg.IndexString"], unfollowed := true, recurses := true, named := ["unicode/utf8.first", "unicode/utf8.acceptRanges", "internal/bytealg.MaxLen"], plainKeys := false, apart := false, laid := [("unicode/utf8.acceptRanges", laid_unicode_utf8_acceptRanges), ("unicode/utf8.first", laid_unicode_utf8_first)] }
def DirentNamesSaid : Prop := direntNamesRow.holds Tryd.pinned (OpenSpec.ofChange direntNamesSpec)

/-- ITS FALSE NEIGHBOUR: 'it returns false'. Refute it at one input. -/
def direntNamesWrong : ChangeSpec := { name := "direntNames", fn := fun _ => fun
  | [d] => { results := [.lit (.bool false)], args := [d] }
  | _ => none }
def DirentNamesWrongFalsely : Prop := direntNamesRow.holds Tryd.pinned (OpenSpec.ofChange direntNamesWrong)

/-- 'parapetlaw18.DirentGrows': WHATEVER THE INPUT: true; the input reads as it did. -/
def direntGrowsSpec : ChangeSpec := { name := "direntGrows", fn := fun _ => fun
  | [d] => { results := [.lit (.bool true)], args := [d] }
  | _ => none }
def direntGrowsRow : OpenClaim := { program := "ythinkofjbabfbaadoor", sum := "d96d722c663e45196acc8ede39b5dac0eedc048ea8daf6bc70e4f34a0ecde586", func := "parapet/parapetlaw18.DirentGrows", spec := "direntGrows", inPlace := ["internal/bytealg.IndexByteString", "internal/bytealg.IndexString"], unfollowed := true, recurses := true, named := ["unicode/utf8.first", "unicode/utf8.acceptRanges", "internal/bytealg.MaxLen"], plainKeys := false, apart := false, laid := [("unicode/utf8.acceptRanges", laid_unicode_utf8_acceptRanges), ("unicode/utf8.first", laid_unicode_utf8_first)] }
def DirentGrowsSaid : Prop := direntGrowsRow.holds Tryd.pinned (OpenSpec.ofChange direntGrowsSpec)

/-- ITS FALSE NEIGHBOUR: 'it returns false'. Refute it at one input. -/
def direntGrowsWrong : ChangeSpec := { name := "direntGrows", fn := fun _ => fun
  | [d] => { results := [.lit (.bool false)], args := [d] }
  | _ => none }
def DirentGrowsWrongFalsely : Prop := direntGrowsRow.holds Tryd.pinned (OpenSpec.ofChange direntGrowsWrong)

/-- 'parapetlaw18.DirentMaps': WHATEVER THE INPUT: true; the input reads as it did. -/
def direntMapsSpec : ChangeSpec := { name := "direntMaps", fn := fun _ => fun
  | [d] => { results := [.lit (.bool true)], args := [d] }
  | _ => none }
def direntMapsRow : OpenClaim := { program := "ythinkofjbabfbaadoor", sum := "d96d722c663e45196acc8ede39b5dac0eedc048ea8daf6bc70e4f34a0ecde586", func := "parapet/parapetlaw18.DirentMaps", spec := "direntMaps", inPlace := ["internal/bytealg.IndexByteString", "internal/bytealg.IndexString"], unfollowed := true, recurses := true, named := ["unicode/utf8.first", "unicode/utf8.acceptRanges", "internal/bytealg.MaxLen"], plainKeys := false, apart := false, laid := [("unicode/utf8.acceptRanges", laid_unicode_utf8_acceptRanges), ("unicode/utf8.first", laid_unicode_utf8_first)] }
def DirentMapsSaid : Prop := direntMapsRow.holds Tryd.pinned (OpenSpec.ofChange direntMapsSpec)

/-- ITS FALSE NEIGHBOUR: 'it returns false'. Refute it at one input. -/
def direntMapsWrong : ChangeSpec := { name := "direntMaps", fn := fun _ => fun
  | [d] => { results := [.lit (.bool false)], args := [d] }
  | _ => none }
def DirentMapsWrongFalsely : Prop := direntMapsRow.holds Tryd.pinned (OpenSpec.ofChange direntMapsWrong)

/-- 'parapetlaw18.DirentDoes': WHATEVER THE INPUT: true; the input reads as it did. -/
def direntDoesSpec : ChangeSpec := { name := "direntDoes", fn := fun _ => fun
  | [d1, d2] => { results := [.lit (.bool true)], args := [d1, d2] }
  | _ => none }
def direntDoesRow : OpenClaim := { program := "ythinkofjbabfbaadoor", sum := "d96d722c663e45196acc8ede39b5dac0eedc048ea8daf6bc70e4f34a0ecde586", func := "parapet/parapetlaw18.DirentDoes", spec := "direntDoes", inPlace := ["internal/bytealg.IndexByteString", "internal/bytealg.IndexString"], unfollowed := true, recurses := true, named := ["unicode/utf8.first", "unicode/utf8.acceptRanges", "internal/bytealg.MaxLen"], plainKeys := false, apart := false, laid := [("unicode/utf8.acceptRanges", laid_unicode_utf8_acceptRanges), ("unicode/utf8.first", laid_unicode_utf8_first)] }
def DirentDoesSaid : Prop := direntDoesRow.holds Tryd.pinned (OpenSpec.ofChange direntDoesSpec)

/-- ITS FALSE NEIGHBOUR: 'it returns false'. Refute it at one input. -/
def direntDoesWrong : ChangeSpec := { name := "direntDoes", fn := fun _ => fun
  | [d1, d2] => { results := [.lit (.bool false)], args := [d1, d2] }
  | _ => none }
def DirentDoesWrongFalsely : Prop := direntDoesRow.holds Tryd.pinned (OpenSpec.ofChange direntDoesWrong)

/-- 'parapetlaw19.NamecNobody': WHATEVER THE INPUT: true; the input reads as it did. -/
def namecNobodySpec : ChangeSpec := { name := "namecNobody", fn := fun _ => fun
  | [d1, d2, d3] => { results := [.lit (.bool true)], args := [d1, d2, d3] }
  | _ => none }
def namecNobodyRow : OpenClaim := { program := "ythinkofjbabfbaadoor", sum := "d96d722c663e45196acc8ede39b5dac0eedc048ea8daf6bc70e4f34a0ecde586", func := "parapet/parapetlaw19.NamecNobody", spec := "namecNobody", inPlace := ["internal/bytealg.IndexByteString", "internal/bytealg.CountString", "internal/bytealg.IndexString"], unfollowed := true, recurses := true, named := ["unicode/utf8.first", "unicode/utf8.acceptRanges", "internal/bytealg.MaxLen"], plainKeys := false, apart := false, laid := [("unicode/utf8.acceptRanges", laid_unicode_utf8_acceptRanges), ("unicode/utf8.first", laid_unicode_utf8_first)] }
def NamecNobodySaid : Prop := namecNobodyRow.holds Tryd.pinned (OpenSpec.ofChange namecNobodySpec)

/-- ITS FALSE NEIGHBOUR: 'it returns false'. Refute it at one input. -/
def namecNobodyWrong : ChangeSpec := { name := "namecNobody", fn := fun _ => fun
  | [d1, d2, d3] => { results := [.lit (.bool false)], args := [d1, d2, d3] }
  | _ => none }
def NamecNobodyWrongFalsely : Prop := namecNobodyRow.holds Tryd.pinned (OpenSpec.ofChange namecNobodyWrong)

/- THE SECOND FORM. 'bulk': how many values and letters a reading holds, each counted each time it is reached (what is shared counts as often as it is met; a slice's spare places count too). A statement '..UptoSaid' is the law's where the arguments, and the package variables that the reading takes, are together of bulk at most 1048576: NARROWER than '..Said'. Prove '..Said' where nothing that the law and all that it calls make is longer than what came in: it says more and counts as full. Else prove '..UptoSaid'. A law counts once. -/
mutual
def uptoBulk {H : Type} : DataW H → Nat
  | .lit (.string bytes) => bytes.length + 1
  | .lit _ => 1
  | .nil => 1
  | .ptr d => uptoBulk d + 1
  | .slice elems spare => uptoBulkAll elems + uptoBulkAll spare + 1
  | .agg parts => uptoBulkAll parts + 1
  | .iface _ d => uptoBulk d + 1
  | .map entries => uptoBulkEntries entries + 1
  | .held _ => 1
def uptoBulkAll {H : Type} : List (DataW H) → Nat
  | [] => 0
  | d :: r => uptoBulk d + uptoBulkAll r
def uptoBulkEntries {H : Type} : List (Lit × DataW H) → Nat
  | [] => 0
  | x :: r => uptoBulkEntry x + uptoBulkEntries r
def uptoBulkEntry {H : Type} : Lit × DataW H → Nat
  | (.string bytes, d) => bytes.length + uptoBulk d + 1
  | (_, d) => uptoBulk d + 1
 end
def uptoSmall : (H : Type) → List (DataW H) → Bool := fun _ ds => decide (uptoBulkAll ds ≤ 1048576)
def OpenSpec.upto (s : _root_.Go.ChangeSpec) : _root_.Go.OpenSpec := { _root_.Go.OpenSpec.ofChange s with cond := some uptoSmall }

/-- 'parapetlaw19.NamecSplits', WHERE WHAT IT READS IS OF BULK AT MOST 1048576: true; the input reads as it did. -/
def namecSplitsUptoRow : OpenClaim := { program := "ythinkofjbabfbaadoor", sum := "d96d722c663e45196acc8ede39b5dac0eedc048ea8daf6bc70e4f34a0ecde586", func := "parapet/parapetlaw19.NamecSplits", spec := "namecSplits", inPlace := ["internal/bytealg.IndexByteString", "internal/bytealg.CountString", "internal/bytealg.IndexString"], unfollowed := true, recurses := true, named := ["unicode/utf8.first", "unicode/utf8.acceptRanges", "internal/bytealg.MaxLen"], plainKeys := false, apart := false, laid := [("unicode/utf8.acceptRanges", laid_unicode_utf8_acceptRanges), ("unicode/utf8.first", laid_unicode_utf8_first)], narrowed := true }
def NamecSplitsUptoSaid : Prop := namecSplitsUptoRow.holds Tryd.pinned (OpenSpec.upto namecSplitsSpec)

/-- 'parapetlaw19.NamecKeeps', WHERE WHAT IT READS IS OF BULK AT MOST 1048576: true; the input reads as it did. -/
def namecKeepsUptoRow : OpenClaim := { program := "ythinkofjbabfbaadoor", sum := "d96d722c663e45196acc8ede39b5dac0eedc048ea8daf6bc70e4f34a0ecde586", func := "parapet/parapetlaw19.NamecKeeps", spec := "namecKeeps", inPlace := ["internal/bytealg.IndexByteString", "internal/bytealg.CountString", "internal/bytealg.IndexString"], unfollowed := true, recurses := true, named := ["unicode/utf8.first", "unicode/utf8.acceptRanges", "internal/bytealg.MaxLen"], plainKeys := false, apart := false, laid := [("unicode/utf8.acceptRanges", laid_unicode_utf8_acceptRanges), ("unicode/utf8.first", laid_unicode_utf8_first)], narrowed := true }
def NamecKeepsUptoSaid : Prop := namecKeepsUptoRow.holds Tryd.pinned (OpenSpec.upto namecKeepsSpec)

/-- 'parapetlaw19.NamecReaders', WHERE WHAT IT READS IS OF BULK AT MOST 1048576: true; the input reads as it did. -/
def namecReadersUptoRow : OpenClaim := { program := "ythinkofjbabfbaadoor", sum := "d96d722c663e45196acc8ede39b5dac0eedc048ea8daf6bc70e4f34a0ecde586", func := "parapet/parapetlaw19.NamecReaders", spec := "namecReaders", inPlace := ["internal/bytealg.IndexByteString", "internal/bytealg.CountString", "internal/bytealg.IndexString"], unfollowed := true, recurses := true, named := ["unicode/utf8.first", "unicode/utf8.acceptRanges", "internal/bytealg.MaxLen"], plainKeys := false, apart := false, laid := [("unicode/utf8.acceptRanges", laid_unicode_utf8_acceptRanges), ("unicode/utf8.first", laid_unicode_utf8_first)], narrowed := true }
def NamecReadersUptoSaid : Prop := namecReadersUptoRow.holds Tryd.pinned (OpenSpec.upto namecReadersSpec)

/-- 'parapetlaw18.DirentNames', WHERE WHAT IT READS IS OF BULK AT MOST 1048576: true; the input reads as it did. -/
def direntNamesUptoRow : OpenClaim := { program := "ythinkofjbabfbaadoor", sum := "d96d722c663e45196acc8ede39b5dac0eedc048ea8daf6bc70e4f34a0ecde586", func := "parapet/parapetlaw18.DirentNames", spec := "direntNames", inPlace := ["internal/bytealg.IndexByteString", "internal/bytealg.IndexString"], unfollowed := true, recurses := true, named := ["unicode/utf8.first", "unicode/utf8.acceptRanges", "internal/bytealg.MaxLen"], plainKeys := false, apart := false, laid := [("unicode/utf8.acceptRanges", laid_unicode_utf8_acceptRanges), ("unicode/utf8.first", laid_unicode_utf8_first)], narrowed := true }
def DirentNamesUptoSaid : Prop := direntNamesUptoRow.holds Tryd.pinned (OpenSpec.upto direntNamesSpec)

/-- 'parapetlaw18.DirentGrows', WHERE WHAT IT READS IS OF BULK AT MOST 1048576: true; the input reads as it did. -/
def direntGrowsUptoRow : OpenClaim := { program := "ythinkofjbabfbaadoor", sum := "d96d722c663e45196acc8ede39b5dac0eedc048ea8daf6bc70e4f34a0ecde586", func := "parapet/parapetlaw18.DirentGrows", spec := "direntGrows", inPlace := ["internal/bytealg.IndexByteString", "internal/bytealg.IndexString"], unfollowed := true, recurses := true, named := ["unicode/utf8.first", "unicode/utf8.acceptRanges", "internal/bytealg.MaxLen"], plainKeys := false, apart := false, laid := [("unicode/utf8.acceptRanges", laid_unicode_utf8_acceptRanges), ("unicode/utf8.first", laid_unicode_utf8_first)], narrowed := true }
def DirentGrowsUptoSaid : Prop := direntGrowsUptoRow.holds Tryd.pinned (OpenSpec.upto direntGrowsSpec)

/-- 'parapetlaw18.DirentMaps', WHERE WHAT IT READS IS OF BULK AT MOST 1048576: true; the input reads as it did. -/
def direntMapsUptoRow : OpenClaim := { program := "ythinkofjbabfbaadoor", sum := "d96d722c663e45196acc8ede39b5dac0eedc048ea8daf6bc70e4f34a0ecde586", func := "parapet/parapetlaw18.DirentMaps", spec := "direntMaps", inPlace := ["internal/bytealg.IndexByteString", "internal/bytealg.IndexString"], unfollowed := true, recurses := true, named := ["unicode/utf8.first", "unicode/utf8.acceptRanges", "internal/bytealg.MaxLen"], plainKeys := false, apart := false, laid := [("unicode/utf8.acceptRanges", laid_unicode_utf8_acceptRanges), ("unicode/utf8.first", laid_unicode_utf8_first)], narrowed := true }
def DirentMapsUptoSaid : Prop := direntMapsUptoRow.holds Tryd.pinned (OpenSpec.upto direntMapsSpec)

/-- 'parapetlaw18.DirentDoes', WHERE WHAT IT READS IS OF BULK AT MOST 1048576: true; the input reads as it did. -/
def direntDoesUptoRow : OpenClaim := { program := "ythinkofjbabfbaadoor", sum := "d96d722c663e45196acc8ede39b5dac0eedc048ea8daf6bc70e4f34a0ecde586", func := "parapet/parapetlaw18.DirentDoes", spec := "direntDoes", inPlace := ["internal/bytealg.IndexByteString", "internal/bytealg.IndexString"], unfollowed := true, recurses := true, named := ["unicode/utf8.first", "unicode/utf8.acceptRanges", "internal/bytealg.MaxLen"], plainKeys := false, apart := false, laid := [("unicode/utf8.acceptRanges", laid_unicode_utf8_acceptRanges), ("unicode/utf8.first", laid_unicode_utf8_first)], narrowed := true }
def DirentDoesUptoSaid : Prop := direntDoesUptoRow.holds Tryd.pinned (OpenSpec.upto direntDoesSpec)

/-- 'parapetlaw19.NamecNobody', WHERE WHAT IT READS IS OF BULK AT MOST 1048576: true; the input reads as it did. -/
def namecNobodyUptoRow : OpenClaim := { program := "ythinkofjbabfbaadoor", sum := "d96d722c663e45196acc8ede39b5dac0eedc048ea8daf6bc70e4f34a0ecde586", func := "parapet/parapetlaw19.NamecNobody", spec := "namecNobody", inPlace := ["internal/bytealg.IndexByteString", "internal/bytealg.CountString", "internal/bytealg.IndexString"], unfollowed := true, recurses := true, named := ["unicode/utf8.first", "unicode/utf8.acceptRanges", "internal/bytealg.MaxLen"], plainKeys := false, apart := false, laid := [("unicode/utf8.acceptRanges", laid_unicode_utf8_acceptRanges), ("unicode/utf8.first", laid_unicode_utf8_first)], narrowed := true }
def NamecNobodyUptoSaid : Prop := namecNobodyUptoRow.holds Tryd.pinned (OpenSpec.upto namecNobodySpec)

end Rows
end Go.Proofs.YthinkofjbabfbaaDoor
