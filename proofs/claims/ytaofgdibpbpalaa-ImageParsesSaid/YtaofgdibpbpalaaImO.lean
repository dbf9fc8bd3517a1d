/-
  Two bytes make a number, as image's reader makes it.
-/
import Derived.Test.YtaofgdibpbpalaaIm0
set_option linter.all false
namespace Go.Proofs.Ytaofgdibpbpalaa
open Go.ChangeShapes Go.WideShapes Go.ChangeAt Go.RowKit Go.Lm
theorem binL_shl8 {P : Program} (t : TypeId) (lit : Bool) (a : Int) : binL P .shl t lit (.int .i64 a) (.int .u64 8) = some (.int .i64 (IntKind.i64.wrap (a * 2 ^ 8))) := by rfl
def orIs (x y : Nat) : Bool := match Op.intBits .or .i64 (x : Int) ((y : Int) * 256) with
  | .pure (.int .i64 z) => z == (x : Int) + 256 * y
  | _ => false
theorem orAll_true : ((List.range 256).all fun x => (List.range 256).all fun y => orIs x y) = true := by kernel_rfl
theorem or_bytes {P : Program} (t : TypeId) (lit : Bool) {x y : Nat} (hx : x < 256) (hy : y < 256) : binL P .or t lit (.int .i64 (x : Int)) (.int .i64 ((y : Int) * 256)) = some (.int .i64 ((x : Int) + 256 * y)) := by
  have h := List.all_eq_true.1 (List.all_eq_true.1 orAll_true x (List.mem_range.2 hx)) y (List.mem_range.2 hy)
  unfold orIs at h
  have e : binL P .or t lit (.int .i64 (x : Int)) (.int .i64 ((y : Int) * 256)) = ofPure (Op.intBits .or .i64 (x : Int) ((y : Int) * 256)) := by rfl
  rw [e]
  split at h
  · rename_i z hz
    rw [hz]
    simp only [beq_iff_eq] at h
    rw [h]
    rfl
  · cases h
end Go.Proofs.Ytaofgdibpbpalaa
