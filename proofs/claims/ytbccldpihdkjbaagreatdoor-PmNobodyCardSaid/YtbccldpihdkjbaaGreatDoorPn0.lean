/-
  The program, on the logical machine.
-/
import Derived.Test.YtbccldpihdkjbaaGreatDoorRows
import Derived.Test.YtbccldpihdkjbaaGreatDoorLm5x
set_option linter.all false
namespace Go.Proofs.YtbccldpihdkjbaaGreatDoor
open Go.ChangeShapes Go.WideShapes Go.ChangeAt Go.RowKit Go.Lm
theorem Tryz.mixed : Tryz.prog.follows .mixedOrders = true := by kernel_rfl
theorem Tryz.own : ownKnob Tryz.prog.godebug = none := by kernel_rfl
theorem Tryz.laidOut : laidOutB Tryz.prog = true := by kernel_rfl
abbrev i (n : Int) : LV := .int .i64 n
abbrev B (n : Int) : LV := .int .u8 n
end Go.Proofs.YtbccldpihdkjbaaGreatDoor
