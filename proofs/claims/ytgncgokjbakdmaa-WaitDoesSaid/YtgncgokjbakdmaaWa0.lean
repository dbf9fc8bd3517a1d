/-
  The program, on the logical machine.
-/
import Derived.Test.YtgncgokjbakdmaaRows
import Derived.Test.YtgncgokjbakdmaaLm5x
set_option linter.all false
namespace Go.Proofs.Ytgncgokjbakdmaa
open Go.ChangeShapes Go.WideShapes Go.ChangeAt Go.RowKit Go.Lm
theorem Try.mixed : Try.prog.follows .mixedOrders = true := by kernel_rfl
theorem Try.own : ownKnob Try.prog.godebug = none := by kernel_rfl
theorem Try.laidOut : laidOutB Try.prog = true := by kernel_rfl
abbrev i (n : Int) : LV := .int .i64 n
abbrev B (n : Int) : LV := .int .u8 n
end Go.Proofs.Ytgncgokjbakdmaa
