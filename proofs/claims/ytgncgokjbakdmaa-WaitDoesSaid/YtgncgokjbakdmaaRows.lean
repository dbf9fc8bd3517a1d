/-
  No cell of these rows narrows 'for every input' (looked for: loops, veiled, ifaces, maps, wideKeys, modest, calm, conditions, laid).
  DERIVED. THE GIVEN ROWS OF THIS SEAT. 9 by the template 'for every input the law returns true; each argument reads behind the call as it read before'; 0 by the template 'total and deterministic' (their statements: YtgncgokjbakdmaaTotals.lean).
  GIVEN WITH THE SEED: the statements are not yours to turn. If you find one false, say at which input.
  Laid BY PROGRAM, IN A SANDBOX (cutbox-rows.mjs): the forced cells as the released guide's own fill.sh prints them over the translation 3e451f1f750bab27… (all of the seat's roots in one cut). By AI agents, Wed Nov 11 2026. No macro, syntax, notation, axiom, sorry.
-/
import Derived.Test.YtgncgokjbakdmaaChecked
import GoSem.Claim
import GoSem.ClaimJoined
import GoSem.ClaimMapViews
import Derived.JoinedTies
import Derived.KernelRfl
namespace Go.Proofs.Ytgncgokjbakdmaa
/- THE CELL 'sum', in the pinned program and in every row, IS THE sha256 OF THE DUMP (.gsa) THAT YtgncgokjbakdmaaProg.lean LOADS. Nothing in Lean hashes anything: it is a label: what it is worth is what the hold of that sum in a sandbox is worth. -/
noncomputable def Try.pinned : Pinned := { name := "ytgncgokjbakdmaa", sum := "3e451f1f750bab278cbc36809a8e376a120fbd15cc909f50cf31b862dc2926b7", checked := Try.checked }
namespace Rows
def none {H : Type} : Left H := { results := [], args := [] }

/-- 'parapetlaw12.WaitFair': WHATEVER THE INPUT: true; the input reads as it did. -/
def waitFairSpec : ChangeSpec := { name := "waitFair", fn := fun _ => fun
  | [d1, d2, d3] => { results := [.lit (.bool true)], args := [d1, d2, d3] }
  | _ => none }
def waitFairRow : OpenClaim := { program := "ytgncgokjbakdmaa", sum := "3e451f1f750bab278cbc36809a8e376a120fbd15cc909f50cf31b862dc2926b7", func := "parapet/parapetlaw12.WaitFair", spec := "waitFair", unfollowed := true, recurses := true, plainKeys := false, apart := false }
def WaitFairSaid : Prop := waitFairRow.holds Try.pinned (OpenSpec.ofChange waitFairSpec)

/-- ITS FALSE NEIGHBOUR: 'it returns false'. Refute it at one input. -/
def waitFairWrong : ChangeSpec := { name := "waitFair", fn := fun _ => fun
  | [d1, d2, d3] => { results := [.lit (.bool false)], args := [d1, d2, d3] }
  | _ => none }
def WaitFairWrongFalsely : Prop := waitFairRow.holds Try.pinned (OpenSpec.ofChange waitFairWrong)

/-- 'parapetlaw07.TlbOver': WHATEVER THE INPUT: true; the input reads as it did. -/
def tlbOverSpec : ChangeSpec := { name := "tlbOver", fn := fun _ => fun
  | [d1, d2, d3, d4] => { results := [.lit (.bool true)], args := [d1, d2, d3, d4] }
  | _ => none }
def tlbOverRow : OpenClaim := { program := "ytgncgokjbakdmaa", sum := "3e451f1f750bab278cbc36809a8e376a120fbd15cc909f50cf31b862dc2926b7", func := "parapet/parapetlaw07.TlbOver", spec := "tlbOver", unfollowed := true, recurses := true, plainKeys := false, apart := false }
def TlbOverSaid : Prop := tlbOverRow.holds Try.pinned (OpenSpec.ofChange tlbOverSpec)

/-- ITS FALSE NEIGHBOUR: 'it returns false'. Refute it at one input. -/
def tlbOverWrong : ChangeSpec := { name := "tlbOver", fn := fun _ => fun
  | [d1, d2, d3, d4] => { results := [.lit (.bool false)], args := [d1, d2, d3, d4] }
  | _ => none }
def TlbOverWrongFalsely : Prop := tlbOverRow.holds Try.pinned (OpenSpec.ofChange tlbOverWrong)

/-- 'parapetlaw12.WaitOnce': WHATEVER THE INPUT: true; the input reads as it did. -/
def waitOnceSpec : ChangeSpec := { name := "waitOnce", fn := fun _ => fun
  | [d] => { results := [.lit (.bool true)], args := [d] }
  | _ => none }
def waitOnceRow : OpenClaim := { program := "ytgncgokjbakdmaa", sum := "3e451f1f750bab278cbc36809a8e376a120fbd15cc909f50cf31b862dc2926b7", func := "parapet/parapetlaw12.WaitOnce", spec := "waitOnce", unfollowed := true, recurses := true, plainKeys := false, apart := false }
def WaitOnceSaid : Prop := waitOnceRow.holds Try.pinned (OpenSpec.ofChange waitOnceSpec)

/-- ITS FALSE NEIGHBOUR: 'it returns false'. Refute it at one input. -/
def waitOnceWrong : ChangeSpec := { name := "waitOnce", fn := fun _ => fun
  | [d] => { results := [.lit (.bool false)], args := [d] }
  | _ => none }
def WaitOnceWrongFalsely : Prop := waitOnceRow.holds Try.pinned (OpenSpec.ofChange waitOnceWrong)

/-- 'parapetlaw07.TlbApart': WHATEVER THE INPUT: true; the input reads as it did. -/
def tlbApartSpec : ChangeSpec := { name := "tlbApart", fn := fun _ => fun
  | [d1, d2] => { results := [.lit (.bool true)], args := [d1, d2] }
  | _ => none }
def tlbApartRow : OpenClaim := { program := "ytgncgokjbakdmaa", sum := "3e451f1f750bab278cbc36809a8e376a120fbd15cc909f50cf31b862dc2926b7", func := "parapet/parapetlaw07.TlbApart", spec := "tlbApart", unfollowed := true, recurses := true, plainKeys := false, apart := false }
def TlbApartSaid : Prop := tlbApartRow.holds Try.pinned (OpenSpec.ofChange tlbApartSpec)

/-- ITS FALSE NEIGHBOUR: 'it returns false'. Refute it at one input. -/
def tlbApartWrong : ChangeSpec := { name := "tlbApart", fn := fun _ => fun
  | [d1, d2] => { results := [.lit (.bool false)], args := [d1, d2] }
  | _ => none }
def TlbApartWrongFalsely : Prop := tlbApartRow.holds Try.pinned (OpenSpec.ofChange tlbApartWrong)

/-- 'parapetlaw07.TlbForgets': WHATEVER THE INPUT: true; the input reads as it did. -/
def tlbForgetsSpec : ChangeSpec := { name := "tlbForgets", fn := fun _ => fun
  | [d1, d2] => { results := [.lit (.bool true)], args := [d1, d2] }
  | _ => none }
def tlbForgetsRow : OpenClaim := { program := "ytgncgokjbakdmaa", sum := "3e451f1f750bab278cbc36809a8e376a120fbd15cc909f50cf31b862dc2926b7", func := "parapet/parapetlaw07.TlbForgets", spec := "tlbForgets", unfollowed := true, recurses := true, plainKeys := false, apart := false }
def TlbForgetsSaid : Prop := tlbForgetsRow.holds Try.pinned (OpenSpec.ofChange tlbForgetsSpec)

/-- ITS FALSE NEIGHBOUR: 'it returns false'. Refute it at one input. -/
def tlbForgetsWrong : ChangeSpec := { name := "tlbForgets", fn := fun _ => fun
  | [d1, d2] => { results := [.lit (.bool false)], args := [d1, d2] }
  | _ => none }
def TlbForgetsWrongFalsely : Prop := tlbForgetsRow.holds Try.pinned (OpenSpec.ofChange tlbForgetsWrong)

/-- 'parapetlaw07.TlbPlays': WHATEVER THE INPUT: true; the input reads as it did. -/
def tlbPlaysSpec : ChangeSpec := { name := "tlbPlays", fn := fun _ => fun
  | [d1, d2, d3] => { results := [.lit (.bool true)], args := [d1, d2, d3] }
  | _ => none }
def tlbPlaysRow : OpenClaim := { program := "ytgncgokjbakdmaa", sum := "3e451f1f750bab278cbc36809a8e376a120fbd15cc909f50cf31b862dc2926b7", func := "parapet/parapetlaw07.TlbPlays", spec := "tlbPlays", unfollowed := true, recurses := true, plainKeys := false, apart := false }
def TlbPlaysSaid : Prop := tlbPlaysRow.holds Try.pinned (OpenSpec.ofChange tlbPlaysSpec)

/-- ITS FALSE NEIGHBOUR: 'it returns false'. Refute it at one input. -/
def tlbPlaysWrong : ChangeSpec := { name := "tlbPlays", fn := fun _ => fun
  | [d1, d2, d3] => { results := [.lit (.bool false)], args := [d1, d2, d3] }
  | _ => none }
def TlbPlaysWrongFalsely : Prop := tlbPlaysRow.holds Try.pinned (OpenSpec.ofChange tlbPlaysWrong)

/-- 'parapetlaw07.TlbNobody': WHATEVER THE INPUT: true; the input reads as it did. -/
def tlbNobodySpec : ChangeSpec := { name := "tlbNobody", fn := fun _ => fun
  | [d1, d2, d3] => { results := [.lit (.bool true)], args := [d1, d2, d3] }
  | _ => none }
def tlbNobodyRow : OpenClaim := { program := "ytgncgokjbakdmaa", sum := "3e451f1f750bab278cbc36809a8e376a120fbd15cc909f50cf31b862dc2926b7", func := "parapet/parapetlaw07.TlbNobody", spec := "tlbNobody", unfollowed := true, recurses := true, plainKeys := false, apart := false }
def TlbNobodySaid : Prop := tlbNobodyRow.holds Try.pinned (OpenSpec.ofChange tlbNobodySpec)

/-- ITS FALSE NEIGHBOUR: 'it returns false'. Refute it at one input. -/
def tlbNobodyWrong : ChangeSpec := { name := "tlbNobody", fn := fun _ => fun
  | [d1, d2, d3] => { results := [.lit (.bool false)], args := [d1, d2, d3] }
  | _ => none }
def TlbNobodyWrongFalsely : Prop := tlbNobodyRow.holds Try.pinned (OpenSpec.ofChange tlbNobodyWrong)

/-- 'parapetlaw12.WaitDoes': WHATEVER THE INPUT: true; the input reads as it did. -/
def waitDoesSpec : ChangeSpec := { name := "waitDoes", fn := fun _ => fun
  | [d] => { results := [.lit (.bool true)], args := [d] }
  | _ => none }
def waitDoesRow : OpenClaim := { program := "ytgncgokjbakdmaa", sum := "3e451f1f750bab278cbc36809a8e376a120fbd15cc909f50cf31b862dc2926b7", func := "parapet/parapetlaw12.WaitDoes", spec := "waitDoes", unfollowed := true, recurses := true, plainKeys := false, apart := false }
def WaitDoesSaid : Prop := waitDoesRow.holds Try.pinned (OpenSpec.ofChange waitDoesSpec)

/-- ITS FALSE NEIGHBOUR: 'it returns false'. Refute it at one input. -/
def waitDoesWrong : ChangeSpec := { name := "waitDoes", fn := fun _ => fun
  | [d] => { results := [.lit (.bool false)], args := [d] }
  | _ => none }
def WaitDoesWrongFalsely : Prop := waitDoesRow.holds Try.pinned (OpenSpec.ofChange waitDoesWrong)

/-- 'parapetlaw12.WaitNobody': WHATEVER THE INPUT: true; the input reads as it did. -/
def waitNobodySpec : ChangeSpec := { name := "waitNobody", fn := fun _ => fun
  | [d] => { results := [.lit (.bool true)], args := [d] }
  | _ => none }
def waitNobodyRow : OpenClaim := { program := "ytgncgokjbakdmaa", sum := "3e451f1f750bab278cbc36809a8e376a120fbd15cc909f50cf31b862dc2926b7", func := "parapet/parapetlaw12.WaitNobody", spec := "waitNobody", unfollowed := true, recurses := true, plainKeys := false, apart := false }
def WaitNobodySaid : Prop := waitNobodyRow.holds Try.pinned (OpenSpec.ofChange waitNobodySpec)

/-- ITS FALSE NEIGHBOUR: 'it returns false'. Refute it at one input. -/
def waitNobodyWrong : ChangeSpec := { name := "waitNobody", fn := fun _ => fun
  | [d] => { results := [.lit (.bool false)], args := [d] }
  | _ => none }
def WaitNobodyWrongFalsely : Prop := waitNobodyRow.holds Try.pinned (OpenSpec.ofChange waitNobodyWrong)

/- THE SECOND FORM. 'bulk': how many values and letters a reading holds, each counted each time it is reached (what is shared counts as often as it is met; a slice's spare places count too). A statement '..UptoSaid' is the law's where the arguments, and the package variables that the reading takes, are together of bulk at most 1048576: NARROWER than '..Said'. Prove '..Said' where nothing that the law and all that it calls make is longer than what came in: it says more and counts as full. Else prove '..UptoSaid'. A law counts once. -/
mutual
def uptoBulk {H : Type} : DataW H → Nat
  | .lit (.string bytes) => bytes.length + 1
  | .lit _ => 1
  | .nil => 1
  | .ptr d => uptoBulk d + 1
  | .slice elems spare => uptoBulkAll elems + uptoBulkAll spare + 1
  | .agg parts => uptoBulkAll parts + 1
  | .iface _ d => uptoBulk d + 1
  | .map entries => uptoBulkEntries entries + 1
  | .held _ => 1
def uptoBulkAll {H : Type} : List (DataW H) → Nat
  | [] => 0
  | d :: r => uptoBulk d + uptoBulkAll r
def uptoBulkEntries {H : Type} : List (Lit × DataW H) → Nat
  | [] => 0
  | x :: r => uptoBulkEntry x + uptoBulkEntries r
def uptoBulkEntry {H : Type} : Lit × DataW H → Nat
  | (.string bytes, d) => bytes.length + uptoBulk d + 1
  | (_, d) => uptoBulk d + 1
 end
def uptoSmall : (H : Type) → List (DataW H) → Bool := fun _ ds => decide (uptoBulkAll ds ≤ 1048576)
def OpenSpec.upto (s : _root_.Go.ChangeSpec) : _root_.Go.OpenSpec := { _root_.Go.OpenSpec.ofChange s with cond := some uptoSmall }

/-- 'parapetlaw12.WaitFair', WHERE WHAT IT READS IS OF BULK AT MOST 1048576: true; the input reads as it did. -/
def waitFairUptoRow : OpenClaim := { program := "ytgncgokjbakdmaa", sum := "3e451f1f750bab278cbc36809a8e376a120fbd15cc909f50cf31b862dc2926b7", func := "parapet/parapetlaw12.WaitFair", spec := "waitFair", unfollowed := true, recurses := true, plainKeys := false, apart := false, narrowed := true }
def WaitFairUptoSaid : Prop := waitFairUptoRow.holds Try.pinned (OpenSpec.upto waitFairSpec)

/-- 'parapetlaw07.TlbOver', WHERE WHAT IT READS IS OF BULK AT MOST 1048576: true; the input reads as it did. -/
def tlbOverUptoRow : OpenClaim := { program := "ytgncgokjbakdmaa", sum := "3e451f1f750bab278cbc36809a8e376a120fbd15cc909f50cf31b862dc2926b7", func := "parapet/parapetlaw07.TlbOver", spec := "tlbOver", unfollowed := true, recurses := true, plainKeys := false, apart := false, narrowed := true }
def TlbOverUptoSaid : Prop := tlbOverUptoRow.holds Try.pinned (OpenSpec.upto tlbOverSpec)

/-- 'parapetlaw12.WaitOnce', WHERE WHAT IT READS IS OF BULK AT MOST 1048576: true; the input reads as it did. -/
def waitOnceUptoRow : OpenClaim := { program := "ytgncgokjbakdmaa", sum := "3e451f1f750bab278cbc36809a8e376a120fbd15cc909f50cf31b862dc2926b7", func := "parapet/parapetlaw12.WaitOnce", spec := "waitOnce", unfollowed := true, recurses := true, plainKeys := false, apart := false, narrowed := true }
def WaitOnceUptoSaid : Prop := waitOnceUptoRow.holds Try.pinned (OpenSpec.upto waitOnceSpec)

/-- 'parapetlaw07.TlbApart', WHERE WHAT IT READS IS OF BULK AT MOST 1048576: true; the input reads as it did. -/
def tlbApartUptoRow : OpenClaim := { program := "ytgncgokjbakdmaa", sum := "3e451f1f750bab278cbc36809a8e376a120fbd15cc909f50cf31b862dc2926b7", func := "parapet/parapetlaw07.TlbApart", spec := "tlbApart", unfollowed := true, recurses := true, plainKeys := false, apart := false, narrowed := true }
def TlbApartUptoSaid : Prop := tlbApartUptoRow.holds Try.pinned (OpenSpec.upto tlbApartSpec)

/-- 'parapetlaw07.TlbForgets', WHERE WHAT IT READS IS OF BULK AT MOST 1048576: true; the input reads as it did. -/
def tlbForgetsUptoRow : OpenClaim := { program := "ytgncgokjbakdmaa", sum := "3e451f1f750bab278cbc36809a8e376a120fbd15cc909f50cf31b862dc2926b7", func := "parapet/parapetlaw07.TlbForgets", spec := "tlbForgets", unfollowed := true, recurses := true, plainKeys := false, apart := false, narrowed := true }
def TlbForgetsUptoSaid : Prop := tlbForgetsUptoRow.holds Try.pinned (OpenSpec.upto tlbForgetsSpec)

/-- 'parapetlaw07.TlbPlays', WHERE WHAT IT READS IS OF BULK AT MOST 1048576: true; the input reads as it did. -/
def tlbPlaysUptoRow : OpenClaim := { program := "ytgncgokjbakdmaa", sum := "3e451f1f750bab278cbc36809a8e376a120fbd15cc909f50cf31b862dc2926b7", func := "parapet/parapetlaw07.TlbPlays", spec := "tlbPlays", unfollowed := true, recurses := true, plainKeys := false, apart := false, narrowed := true }
def TlbPlaysUptoSaid : Prop := tlbPlaysUptoRow.holds Try.pinned (OpenSpec.upto tlbPlaysSpec)

/-- 'parapetlaw07.TlbNobody', WHERE WHAT IT READS IS OF BULK AT MOST 1048576: true; the input reads as it did. -/
def tlbNobodyUptoRow : OpenClaim := { program := "ytgncgokjbakdmaa", sum := "3e451f1f750bab278cbc36809a8e376a120fbd15cc909f50cf31b862dc2926b7", func := "parapet/parapetlaw07.TlbNobody", spec := "tlbNobody", unfollowed := true, recurses := true, plainKeys := false, apart := false, narrowed := true }
def TlbNobodyUptoSaid : Prop := tlbNobodyUptoRow.holds Try.pinned (OpenSpec.upto tlbNobodySpec)

/-- 'parapetlaw12.WaitDoes', WHERE WHAT IT READS IS OF BULK AT MOST 1048576: true; the input reads as it did. -/
def waitDoesUptoRow : OpenClaim := { program := "ytgncgokjbakdmaa", sum := "3e451f1f750bab278cbc36809a8e376a120fbd15cc909f50cf31b862dc2926b7", func := "parapet/parapetlaw12.WaitDoes", spec := "waitDoes", unfollowed := true, recurses := true, plainKeys := false, apart := false, narrowed := true }
def WaitDoesUptoSaid : Prop := waitDoesUptoRow.holds Try.pinned (OpenSpec.upto waitDoesSpec)

/-- 'parapetlaw12.WaitNobody', WHERE WHAT IT READS IS OF BULK AT MOST 1048576: true; the input reads as it did. -/
def waitNobodyUptoRow : OpenClaim := { program := "ytgncgokjbakdmaa", sum := "3e451f1f750bab278cbc36809a8e376a120fbd15cc909f50cf31b862dc2926b7", func := "parapet/parapetlaw12.WaitNobody", spec := "waitNobody", unfollowed := true, recurses := true, plainKeys := false, apart := false, narrowed := true }
def WaitNobodyUptoSaid : Prop := waitNobodyUptoRow.holds Try.pinned (OpenSpec.upto waitNobodySpec)

end Rows
end Go.Proofs.Ytgncgokjbakdmaa
