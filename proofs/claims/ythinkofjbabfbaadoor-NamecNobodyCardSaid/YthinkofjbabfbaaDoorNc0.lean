/-
  The program, on the logical machine.
-/
import Derived.Test.YthinkofjbabfbaaDoorRows
import Derived.Test.YthinkofjbabfbaaDoorLm5x
set_option linter.all false
namespace Go.Proofs.YthinkofjbabfbaaDoor
open Go.ChangeShapes Go.WideShapes Go.ChangeAt Go.RowKit Go.Lm
theorem Tryd.mixed : Tryd.prog.follows .mixedOrders = true := by kernel_rfl
theorem Tryd.own : ownKnob Tryd.prog.godebug = none := by kernel_rfl
theorem Tryd.laidOut : laidOutB Tryd.prog = true := by kernel_rfl
abbrev i (n : Int) : LV := .int .i64 n
abbrev B (n : Int) : LV := .int .u8 n
end Go.Proofs.YthinkofjbabfbaaDoor
