/-
  waitq: whoever comes first is woken first.
-/
import Derived.Test.YtgncgokjbakdmaaWa8
import Derived.Test.YtgncgokjbakdmaaLm4x
set_option linter.all false
namespace Go.Proofs.Ytgncgokjbakdmaa
open Go.ChangeShapes Go.WideShapes Go.ChangeAt Go.RowKit Go.Lm
set_option linter.unusedSimpArgs false
variable {g g' : LHeap} {q n : Nat} {col : Nat → Option Tag} {on : Int → Option (List Chan)} {sl : Chan → List Int}
def reachedA : List FuncId := [13, 12, 14, 40, 41, 50, 42, 15, 17, 43, 26, 49, 76, 75, 93, 16, 27, 28, 39]
set_option maxRecDepth 1000000 in
theorem fineA : reachedA.all (fineF Try.prog) = true := by kernel_rfl
set_option maxRecDepth 1000000 in
theorem awake_computed : (flats [] && (LV.bool true).flat && callB Try.prog reachedA 3000 13 [] (emp 0) fun v _ => v.eqb (.bool true)) = true := by kernel_rfl
theorem awake_pure : Pure Try.prog 13 [] (.bool true) := pure_computed Try.mixed fineA awake_computed
set_option maxRecDepth 10000 in
theorem bs30_1 (h : LHeap) (a b c : Int) : buildSliceL Try.prog 30 1 [(0, .agg [i a, i b, i c])] h = some (.slice h.next 0 1 (.ex 1), h.alloc (.cells [i a, i b, i c] .ex)) := nr (by kernel_rfl)
/-- Those that a first wake leaves. -/
theorem left_of {m : List Int} (hd : m.Nodup) (k : Nat) : (m.filter fun t => !decide (t ∈ m.take k)) = m.drop k := by
  have h0 := hd
  rw [← List.take_append_drop k m, List.nodup_append] at h0
  conv => lhs; arg 2; rw [← List.take_append_drop k m]
  rw [List.filter_append, List.filter_eq_nil_iff.2, List.nil_append, List.filter_eq_self.2]
  · intro t ht
    have : t ∉ m.take k := fun h => h0.2.2 t h t ht rfl
    simpa using this
  · intro t ht
    simpa using ht
end Go.Proofs.Ytgncgokjbakdmaa
