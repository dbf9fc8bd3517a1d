/-
  namec's law: what is computed: lives; the first slash of a text.
-/
import Derived.Test.YthinkofjbabfbaaDoorNc0
import Derived.Test.YthinkofjbabfbaaDoorLm4x
set_option linter.all false
namespace Go.Proofs.YthinkofjbabfbaaDoor
open Go.ChangeShapes Go.WideShapes Go.ChangeAt Go.RowKit Go.Lm
set_option maxRecDepth 1000000
theorem idx_asked (s : List UInt8) : callQ Tryd.prog [121] [] [(139, [(22, .bool false)])] 300 121 [.str s, .str [47]] (emp 0) (fun v _ => v = .int .i64 (idxB 47 s 0)) = (binL Tryd.prog .eql 9 false (.str [47]) (.str s) = some (.bool false) ∧ LV.int .i64 (idxB 47 s 0) = .int .i64 (idxB 47 s 0)) := by kernel_rfl
theorem idx_asked' : callQ Tryd.prog [121] [] [] 300 121 [.str [47], .str [47]] (emp 0) (fun v _ => v = .int .i64 0) = (LV.int .i64 0 = .int .i64 0) := by kernel_rfl
theorem fine121 : ([121] : List FuncId).all (fineF Tryd.prog) = true := by kernel_rfl
theorem idx121 (s : List UInt8) : Pure Tryd.prog 121 [.str s, .str [47]] (.int .i64 (idxB 47 s 0)) := by
  by_cases h : s = [47]
  · subst h
    exact pure_asked' Tryd.mixed fine121 rfl idx_asked' rfl
  · refine pure_asked' Tryd.mixed fine121 rfl (idx_asked s) ⟨?_, rfl⟩
    rw [binL_eql_str, beq_eq_false_iff_ne.2 fun e => h e.symm]
def reachedL : List FuncId := [13, 11, 54, 94, 120, 53, 93, 121, 15, 16, 17, 19, 21, 55, 58, 61, 25, 95, 122, 59, 60, 96]
theorem fineL : reachedL.all (fineF Tryd.prog) = true := by kernel_rfl
theorem lives_computed : (flats [] && (LV.bool true).flat && callB Tryd.prog reachedL 3000 13 [] (emp 0) fun v _ => v.eqb (.bool true)) = true := by kernel_rfl
theorem lives_pure : Pure Tryd.prog 13 [] (.bool true) := pure_computed Tryd.mixed fineL lives_computed
end Go.Proofs.YthinkofjbabfbaaDoor
