/-
  parapetlaw26.CallNames returns true, whatever the input (it has none): no condition. The call is carried out on the logical machine (LmA .. LmS), and the kernel computes what comes of it.
-/
import Derived.Test.YtaofgdibpbpalaaRows
import Derived.Test.YtaofgdibpbpalaaLmT
namespace Go.Proofs.Ytaofgdibpbpalaa
open Go.ChangeShapes Go.WideShapes Go.ChangeAt Go.RowKit Go.Lm

theorem Try.own : ownKnob Try.prog.godebug = none := by kernel_rfl
theorem Try.laidOut : laidOutB Try.prog = true := by kernel_rfl
theorem Try.mixed : Try.prog.follows .mixedOrders = true := by kernel_rfl

/-- The answer is true. -/
def isTrue : LV → LHeap → Bool := fun v _ => match v with
  | .bool b => b
  | _ => false
theorem isTrue_eq {v : LV} {g : LHeap} (h : isTrue v g = true) : v = .bool true := by
  cases v with
  | bool b => cases b with
    | true => rfl
    | false => cases h
  | _ => cases h

def reached : List FuncId := [3, 13, 30, 27, 59, 62, 83, 34, 63, 32, 28, 21]
set_option maxRecDepth 1000000 in
theorem fine : reached.all (fineF Try.prog) = true := by kernel_rfl
set_option maxRecDepth 1000000 in
theorem computed : callB Try.prog reached 300 3 [] (emp 0) isTrue = true := by kernel_rfl

theorem walk (w : World) : Calls Try.prog 3 #[] w fun e w' => e = .returned (.bool true) ∧ Below w.heap.size w w' :=
  (callB_sound Try.mixed fine 300 3 [] (emp 0) isTrue computed).enter (ρ := ⟨fun _ => 0, fun _ => 0, fun _ => 0⟩) (rel_emp w _ 0) trivial fun _ _ h => isTrue_eq h

set_option maxRecDepth 100000 in
theorem lifted (os : Os) (started : os.Started) (H : Type) (enc : TypeId × Value → H) :
    ReturnsInHanded {} Try.checked os 3 .any (Rows.callNamesSpec.pre6 enc Try.prog Try.f3 Rows.callNamesRow.domain false) (Rows.callNamesSpec.post enc Try.prog Try.f3 false true false false) := by
  refine returnsInHanded_of_change (C := Try.checked) Try.own started (by kernel_rfl) Try.func3
    (ChangeSpec.witness6 (enc := enc) (C := Try.checked) false ⟨#[], #[], []⟩ 8 (by kernel_rfl) (by kernel_rfl) (by kernel_rfl) (by kernel_rfl)) ?_
  intro W base args ds gs before hval0 hW hcnd _
  have hW' := hW
  obtain ⟨p, q, hA0, hV, rfl, hfz, hnd⟩ := hW
  have hA : DataW.TrodAll enc Try.prog W 0 (fun _ => true) true Try.f3.params.toList args.toList ds p := hA0
  rw [Try.params3] at hA
  obtain ⟨rfl, rfl, rfl⟩ := trodAll_none hA
  obtain ⟨rfl, rfl⟩ := trodVars_none hV
  refine (walk W).mono fun e W' ⟨he, hb⟩ => ?_
  subst he
  exact ⟨_, rfl, post_true (P := Try.prog) (t := 4) Try.laidOut (by rw [Try.params3]; simp) rfl hW' (by kernel_rfl) (by kernel_rfl) rfl hb⟩

theorem holds : Rows.CallNamesSaid :=
  OpenClaim.holds_of_wide 3 Try.f3 rfl rfl rfl rfl rfl rfl rfl ⟨rfl, rfl, rfl, rfl, rfl⟩ rfl rfl rfl rfl rfl (by kernel_rfl) Try.func3 (by kernel_rfl)
    (of_decide_eq_true (by kernel_rfl)) (by unfold Func.isWrapper; first | (rw [if_pos (by decide +kernel)]; kernel_rfl) | (rw [if_neg (by decide +kernel)]; exact ⟨rfl, rfl⟩))
    (fun os started H enc _ => lifted os started H enc)

#print axioms holds
end Go.Proofs.Ytaofgdibpbpalaa
