/-
  parapetlaw15.lives is true: computed.
-/
import Derived.Test.YtoajcekgoalhjaaBfP
import Derived.Test.YtoajcekgoalhjaaLm4x
set_option linter.all false
namespace Go.Proofs.Ytoajcekgoalhjaa
open Go.ChangeShapes Go.WideShapes Go.ChangeAt Go.RowKit Go.Lm
def reachedL : List FuncId := [12, 13, 44, 45, 50, 80, 79, 76, 46, 47, 48, 77, 78, 42, 75, 73, 17, 49, 72, 88, 11, 10, 16, 15, 43, 35, 64, 34, 66, 85, 98, 99, 84, 89, 95, 105, 90, 100, 91, 101, 102, 92, 103, 104, 106, 93, 94, 96, 97, 18, 39]
set_option maxRecDepth 1000000 in
theorem fineLives : reachedL.all (fineF Try.prog) = true := by kernel_rfl
set_option maxRecDepth 1000000 in
theorem lives_computed : (flats [] && (LV.bool true).flat && callB Try.prog reachedL 3000 11 [] (emp 0) fun v _ => v.eqb (.bool true)) = true := by kernel_rfl
theorem lives_pure : Pure Try.prog 11 [] (.bool true) := pure_computed Try.mixed fineLives lives_computed
end Go.Proofs.Ytoajcekgoalhjaa
