/-
  The program, on the logical machine.
-/
import Derived.Test.YtfbagndfifibiaaRows
import Derived.Test.YtfbagndfifibiaaLm5x
set_option linter.all false
namespace Go.Proofs.Ytfbagndfifibiaa
open Go.ChangeShapes Go.WideShapes Go.ChangeAt Go.RowKit Go.Lm
theorem Try.mixed : Try.prog.follows .mixedOrders = true := by kernel_rfl
theorem Try.own : ownKnob Try.prog.godebug = none := by kernel_rfl
theorem Try.laidOut : laidOutB Try.prog = true := by kernel_rfl
abbrev i (n : Int) : LV := .int .i64 n
abbrev B (n : Int) : LV := .int .u8 n
end Go.Proofs.Ytfbagndfifibiaa
