/-
  No cell of these rows narrows 'for every input' (looked for: loops, veiled, ifaces, maps, wideKeys, modest, calm, conditions, laid).
  DERIVED. THE GIVEN ROWS OF THIS SEAT. 7 by the template 'for every input the law returns true; each argument reads behind the call as it read before'; 0 by the template 'total and deterministic' (their statements: YtoajcekgoalhjaaTotals.lean).
  GIVEN WITH THE SEED: the statements are not yours to turn. If you find one false, say at which input.
  Laid BY PROGRAM, IN A SANDBOX (cutbox-rows.mjs): the forced cells as the released guide's own fill.sh prints them over the translation b7196c63c8beabf1… (all of the seat's roots in one cut). By AI agents, Wed Nov 11 2026. No macro, syntax, notation, axiom, sorry.
-/
import Derived.Test.YtoajcekgoalhjaaChecked
import GoSem.Claim
import GoSem.ClaimJoined
import GoSem.ClaimMapViews
import Derived.JoinedTies
import Derived.KernelRfl
namespace Go.Proofs.Ytoajcekgoalhjaa
/- THE CELL 'sum', in the pinned program and in every row, IS THE sha256 OF THE DUMP (.gsa) THAT YtoajcekgoalhjaaProg.lean LOADS. Nothing in Lean hashes anything: it is a label: what it is worth is what the hold of that sum in a sandbox is worth. -/
noncomputable def Try.pinned : Pinned := { name := "ytoajcekgoalhjaa", sum := "b7196c63c8beabf18181039fbd1d70c28ec3c958684b68cf2ac716aff4b6acdf", checked := Try.checked }
namespace Rows
def none {H : Type} : Left H := { results := [], args := [] }

/-- 'parapetlaw15.BufSame': WHATEVER THE INPUT: true; the input reads as it did. -/
def bufSameSpec : ChangeSpec := { name := "bufSame", fn := fun _ => fun
  | [d1, d2, d3] => { results := [.lit (.bool true)], args := [d1, d2, d3] }
  | _ => none }
def bufSameRow : OpenClaim := { program := "ytoajcekgoalhjaa", sum := "b7196c63c8beabf18181039fbd1d70c28ec3c958684b68cf2ac716aff4b6acdf", func := "parapet/parapetlaw15.BufSame", spec := "bufSame", unfollowed := true, recurses := true, apart := false }
def BufSameSaid : Prop := bufSameRow.holds Try.pinned (OpenSpec.ofChange bufSameSpec)

/-- ITS FALSE NEIGHBOUR: 'it returns false'. Refute it at one input. -/
def bufSameWrong : ChangeSpec := { name := "bufSame", fn := fun _ => fun
  | [d1, d2, d3] => { results := [.lit (.bool false)], args := [d1, d2, d3] }
  | _ => none }
def BufSameWrongFalsely : Prop := bufSameRow.holds Try.pinned (OpenSpec.ofChange bufSameWrong)

/-- 'parapetlaw06.FrameShares': WHATEVER THE INPUT: true; the input reads as it did. -/
def frameSharesSpec : ChangeSpec := { name := "frameShares", fn := fun _ => fun
  | [d1, d2, d3] => { results := [.lit (.bool true)], args := [d1, d2, d3] }
  | _ => none }
def frameSharesRow : OpenClaim := { program := "ytoajcekgoalhjaa", sum := "b7196c63c8beabf18181039fbd1d70c28ec3c958684b68cf2ac716aff4b6acdf", func := "parapet/parapetlaw06.FrameShares", spec := "frameShares", unfollowed := true, recurses := true, apart := false }
def FrameSharesSaid : Prop := frameSharesRow.holds Try.pinned (OpenSpec.ofChange frameSharesSpec)

/-- ITS FALSE NEIGHBOUR: 'it returns false'. Refute it at one input. -/
def frameSharesWrong : ChangeSpec := { name := "frameShares", fn := fun _ => fun
  | [d1, d2, d3] => { results := [.lit (.bool false)], args := [d1, d2, d3] }
  | _ => none }
def FrameSharesWrongFalsely : Prop := frameSharesRow.holds Try.pinned (OpenSpec.ofChange frameSharesWrong)

/-- 'parapetlaw06.FrameNobody': WHATEVER THE INPUT: true; the input reads as it did. -/
def frameNobodySpec : ChangeSpec := { name := "frameNobody", fn := fun _ => fun
  | [d] => { results := [.lit (.bool true)], args := [d] }
  | _ => none }
def frameNobodyRow : OpenClaim := { program := "ytoajcekgoalhjaa", sum := "b7196c63c8beabf18181039fbd1d70c28ec3c958684b68cf2ac716aff4b6acdf", func := "parapet/parapetlaw06.FrameNobody", spec := "frameNobody", unfollowed := true, recurses := true, apart := false }
def FrameNobodySaid : Prop := frameNobodyRow.holds Try.pinned (OpenSpec.ofChange frameNobodySpec)

/-- ITS FALSE NEIGHBOUR: 'it returns false'. Refute it at one input. -/
def frameNobodyWrong : ChangeSpec := { name := "frameNobody", fn := fun _ => fun
  | [d] => { results := [.lit (.bool false)], args := [d] }
  | _ => none }
def FrameNobodyWrongFalsely : Prop := frameNobodyRow.holds Try.pinned (OpenSpec.ofChange frameNobodyWrong)

/-- 'parapetlaw15.BufHolds': WHATEVER THE INPUT: true; the input reads as it did. -/
def bufHoldsSpec : ChangeSpec := { name := "bufHolds", fn := fun _ => fun
  | [d1, d2] => { results := [.lit (.bool true)], args := [d1, d2] }
  | _ => none }
def bufHoldsRow : OpenClaim := { program := "ytoajcekgoalhjaa", sum := "b7196c63c8beabf18181039fbd1d70c28ec3c958684b68cf2ac716aff4b6acdf", func := "parapet/parapetlaw15.BufHolds", spec := "bufHolds", unfollowed := true, recurses := true, apart := false }
def BufHoldsSaid : Prop := bufHoldsRow.holds Try.pinned (OpenSpec.ofChange bufHoldsSpec)

/-- ITS FALSE NEIGHBOUR: 'it returns false'. Refute it at one input. -/
def bufHoldsWrong : ChangeSpec := { name := "bufHolds", fn := fun _ => fun
  | [d1, d2] => { results := [.lit (.bool false)], args := [d1, d2] }
  | _ => none }
def BufHoldsWrongFalsely : Prop := bufHoldsRow.holds Try.pinned (OpenSpec.ofChange bufHoldsWrong)

/-- 'parapetlaw06.FrameDoes': WHATEVER THE INPUT: true; the input reads as it did. -/
def frameDoesSpec : ChangeSpec := { name := "frameDoes", fn := fun _ => fun
  | [d1, d2, d3, d4, d5] => { results := [.lit (.bool true)], args := [d1, d2, d3, d4, d5] }
  | _ => none }
def frameDoesRow : OpenClaim := { program := "ytoajcekgoalhjaa", sum := "b7196c63c8beabf18181039fbd1d70c28ec3c958684b68cf2ac716aff4b6acdf", func := "parapet/parapetlaw06.FrameDoes", spec := "frameDoes", unfollowed := true, recurses := true, apart := false }
def FrameDoesSaid : Prop := frameDoesRow.holds Try.pinned (OpenSpec.ofChange frameDoesSpec)

/-- ITS FALSE NEIGHBOUR: 'it returns false'. Refute it at one input. -/
def frameDoesWrong : ChangeSpec := { name := "frameDoes", fn := fun _ => fun
  | [d1, d2, d3, d4, d5] => { results := [.lit (.bool false)], args := [d1, d2, d3, d4, d5] }
  | _ => none }
def FrameDoesWrongFalsely : Prop := frameDoesRow.holds Try.pinned (OpenSpec.ofChange frameDoesWrong)

/-- 'parapetlaw15.BufNobody': WHATEVER THE INPUT: true; the input reads as it did. -/
def bufNobodySpec : ChangeSpec := { name := "bufNobody", fn := fun _ => fun
  | [d1, d2] => { results := [.lit (.bool true)], args := [d1, d2] }
  | _ => none }
def bufNobodyRow : OpenClaim := { program := "ytoajcekgoalhjaa", sum := "b7196c63c8beabf18181039fbd1d70c28ec3c958684b68cf2ac716aff4b6acdf", func := "parapet/parapetlaw15.BufNobody", spec := "bufNobody", unfollowed := true, recurses := true, apart := false }
def BufNobodySaid : Prop := bufNobodyRow.holds Try.pinned (OpenSpec.ofChange bufNobodySpec)

/-- ITS FALSE NEIGHBOUR: 'it returns false'. Refute it at one input. -/
def bufNobodyWrong : ChangeSpec := { name := "bufNobody", fn := fun _ => fun
  | [d1, d2] => { results := [.lit (.bool false)], args := [d1, d2] }
  | _ => none }
def BufNobodyWrongFalsely : Prop := bufNobodyRow.holds Try.pinned (OpenSpec.ofChange bufNobodyWrong)

/-- 'parapetlaw15.BufBack': WHATEVER THE INPUT: true; the input reads as it did. -/
def bufBackSpec : ChangeSpec := { name := "bufBack", fn := fun _ => fun
  | [d1, d2] => { results := [.lit (.bool true)], args := [d1, d2] }
  | _ => none }
def bufBackRow : OpenClaim := { program := "ytoajcekgoalhjaa", sum := "b7196c63c8beabf18181039fbd1d70c28ec3c958684b68cf2ac716aff4b6acdf", func := "parapet/parapetlaw15.BufBack", spec := "bufBack", unfollowed := true, recurses := true, apart := false }
def BufBackSaid : Prop := bufBackRow.holds Try.pinned (OpenSpec.ofChange bufBackSpec)

/-- ITS FALSE NEIGHBOUR: 'it returns false'. Refute it at one input. -/
def bufBackWrong : ChangeSpec := { name := "bufBack", fn := fun _ => fun
  | [d1, d2] => { results := [.lit (.bool false)], args := [d1, d2] }
  | _ => none }
def BufBackWrongFalsely : Prop := bufBackRow.holds Try.pinned (OpenSpec.ofChange bufBackWrong)

/- THE SECOND FORM. 'bulk': how many values and letters a reading holds, each counted each time it is reached (what is shared counts as often as it is met; a slice's spare places count too). A statement '..UptoSaid' is the law's where the arguments, and the package variables that the reading takes, are together of bulk at most 1048576: NARROWER than '..Said'. Prove '..Said' where nothing that the law and all that it calls make is longer than what came in: it says more and counts as full. Else prove '..UptoSaid'. A law counts once. -/
mutual
def uptoBulk {H : Type} : DataW H → Nat
  | .lit (.string bytes) => bytes.length + 1
  | .lit _ => 1
  | .nil => 1
  | .ptr d => uptoBulk d + 1
  | .slice elems spare => uptoBulkAll elems + uptoBulkAll spare + 1
  | .agg parts => uptoBulkAll parts + 1
  | .iface _ d => uptoBulk d + 1
  | .map entries => uptoBulkEntries entries + 1
  | .held _ => 1
def uptoBulkAll {H : Type} : List (DataW H) → Nat
  | [] => 0
  | d :: r => uptoBulk d + uptoBulkAll r
def uptoBulkEntries {H : Type} : List (Lit × DataW H) → Nat
  | [] => 0
  | x :: r => uptoBulkEntry x + uptoBulkEntries r
def uptoBulkEntry {H : Type} : Lit × DataW H → Nat
  | (.string bytes, d) => bytes.length + uptoBulk d + 1
  | (_, d) => uptoBulk d + 1
 end
def uptoSmall : (H : Type) → List (DataW H) → Bool := fun _ ds => decide (uptoBulkAll ds ≤ 1048576)
def OpenSpec.upto (s : _root_.Go.ChangeSpec) : _root_.Go.OpenSpec := { _root_.Go.OpenSpec.ofChange s with cond := some uptoSmall }

/-- 'parapetlaw15.BufSame', WHERE WHAT IT READS IS OF BULK AT MOST 1048576: true; the input reads as it did. -/
def bufSameUptoRow : OpenClaim := { program := "ytoajcekgoalhjaa", sum := "b7196c63c8beabf18181039fbd1d70c28ec3c958684b68cf2ac716aff4b6acdf", func := "parapet/parapetlaw15.BufSame", spec := "bufSame", unfollowed := true, recurses := true, apart := false, narrowed := true }
def BufSameUptoSaid : Prop := bufSameUptoRow.holds Try.pinned (OpenSpec.upto bufSameSpec)

/-- 'parapetlaw06.FrameShares', WHERE WHAT IT READS IS OF BULK AT MOST 1048576: true; the input reads as it did. -/
def frameSharesUptoRow : OpenClaim := { program := "ytoajcekgoalhjaa", sum := "b7196c63c8beabf18181039fbd1d70c28ec3c958684b68cf2ac716aff4b6acdf", func := "parapet/parapetlaw06.FrameShares", spec := "frameShares", unfollowed := true, recurses := true, apart := false, narrowed := true }
def FrameSharesUptoSaid : Prop := frameSharesUptoRow.holds Try.pinned (OpenSpec.upto frameSharesSpec)

/-- 'parapetlaw06.FrameNobody', WHERE WHAT IT READS IS OF BULK AT MOST 1048576: true; the input reads as it did. -/
def frameNobodyUptoRow : OpenClaim := { program := "ytoajcekgoalhjaa", sum := "b7196c63c8beabf18181039fbd1d70c28ec3c958684b68cf2ac716aff4b6acdf", func := "parapet/parapetlaw06.FrameNobody", spec := "frameNobody", unfollowed := true, recurses := true, apart := false, narrowed := true }
def FrameNobodyUptoSaid : Prop := frameNobodyUptoRow.holds Try.pinned (OpenSpec.upto frameNobodySpec)

/-- 'parapetlaw15.BufHolds', WHERE WHAT IT READS IS OF BULK AT MOST 1048576: true; the input reads as it did. -/
def bufHoldsUptoRow : OpenClaim := { program := "ytoajcekgoalhjaa", sum := "b7196c63c8beabf18181039fbd1d70c28ec3c958684b68cf2ac716aff4b6acdf", func := "parapet/parapetlaw15.BufHolds", spec := "bufHolds", unfollowed := true, recurses := true, apart := false, narrowed := true }
def BufHoldsUptoSaid : Prop := bufHoldsUptoRow.holds Try.pinned (OpenSpec.upto bufHoldsSpec)

/-- 'parapetlaw06.FrameDoes', WHERE WHAT IT READS IS OF BULK AT MOST 1048576: true; the input reads as it did. -/
def frameDoesUptoRow : OpenClaim := { program := "ytoajcekgoalhjaa", sum := "b7196c63c8beabf18181039fbd1d70c28ec3c958684b68cf2ac716aff4b6acdf", func := "parapet/parapetlaw06.FrameDoes", spec := "frameDoes", unfollowed := true, recurses := true, apart := false, narrowed := true }
def FrameDoesUptoSaid : Prop := frameDoesUptoRow.holds Try.pinned (OpenSpec.upto frameDoesSpec)

/-- 'parapetlaw15.BufNobody', WHERE WHAT IT READS IS OF BULK AT MOST 1048576: true; the input reads as it did. -/
def bufNobodyUptoRow : OpenClaim := { program := "ytoajcekgoalhjaa", sum := "b7196c63c8beabf18181039fbd1d70c28ec3c958684b68cf2ac716aff4b6acdf", func := "parapet/parapetlaw15.BufNobody", spec := "bufNobody", unfollowed := true, recurses := true, apart := false, narrowed := true }
def BufNobodyUptoSaid : Prop := bufNobodyUptoRow.holds Try.pinned (OpenSpec.upto bufNobodySpec)

/-- 'parapetlaw15.BufBack', WHERE WHAT IT READS IS OF BULK AT MOST 1048576: true; the input reads as it did. -/
def bufBackUptoRow : OpenClaim := { program := "ytoajcekgoalhjaa", sum := "b7196c63c8beabf18181039fbd1d70c28ec3c958684b68cf2ac716aff4b6acdf", func := "parapet/parapetlaw15.BufBack", spec := "bufBack", unfollowed := true, recurses := true, apart := false, narrowed := true }
def BufBackUptoSaid : Prop := bufBackUptoRow.holds Try.pinned (OpenSpec.upto bufBackSpec)

end Rows
end Go.Proofs.Ytoajcekgoalhjaa
