/-
  parapetlaw06.FrameNobody returns true for every call: no condition.
-/
import Derived.Test.YtoajcekgoalhjaaFrI
import Derived.Test.YtoajcekgoalhjaaLm4x
import Derived.SizedLaws
set_option linter.all false
namespace Go.Proofs.Ytoajcekgoalhjaa
open Go.ChangeShapes Go.WideShapes Go.ChangeAt Go.RowKit Go.Lm
set_option linter.unusedSimpArgs false
def reachedN : List FuncId := [5, 22, 25, 29, 30, 27, 26, 31, 32, 28, 33, 65, 54, 21]
set_option maxRecDepth 1000000 in
theorem fineN : reachedN.all (fineF Try.prog) = true := by kernel_rfl
theorem awake_pure : Pure Try.prog 19 [] (.bool true) := Pure.of rfl rfl ((awake_ok (g := emp 0)).mono fun _ _ h => h.1)
set_option maxRecDepth 1000000 in
theorem askedN (k t n : Int) : callQ Try.prog reachedN [(19, fun _ => .bool true)] [] 400 5 [.agg [i k, i t, i n]] (emp 0) (fun v _ => v = .bool true) =
    (Pure Try.prog 19 [] (.bool true) ∧ LoopState.ready ≠ LoopState.busy ∧ LoopState.ready ≠ LoopState.busy ∧ LV.bool true = LV.bool true) := by kernel_rfl
theorem body5 (g : LHeap) (xs : List LV) (h : ShpArgs Try.prog g 4 [52] xs) : Ok Try.prog 5 xs g fun v _ => v = .bool true := by
  obtain ⟨yss, zs, rfl, hy, h⟩ := shp_struct Try.underlying52 h
  obtain rfl := shp_nil h
  obtain ⟨k, _, rfl, _, _, hy⟩ := alls_int u3 hy
  obtain ⟨t, _, rfl, _, _, hy⟩ := alls_int u3 hy
  obtain ⟨n, _, rfl, _, _, hy⟩ := alls_int u3 hy
  obtain rfl := alls_nil hy
  exact blind_asked (P := Try.prog) (g := g) Try.mixed fineN (k := 0) (fun _ => 0) (args := [.agg [i k, i t, i n]]) rfl (askedN k t n) ⟨awake_pure, by decide, by decide, rfl⟩

set_option maxRecDepth 100000 in
theorem lifted (os : Os) (started : os.Started) (H : Type) (enc : TypeId × Value → H) :
    ReturnsInHanded {} Try.checked os 5 .any (Rows.frameNobodySpec.pre6 enc Try.prog Try.f5 Rows.frameNobodyRow.domain false) (Rows.frameNobodySpec.post enc Try.prog Try.f5 false true false false) := by
  refine returnsInHanded_of_change_sized (C := Try.checked) Try.own started (by kernel_rfl) Try.func5
    (ChangeSpec.witness6 (enc := enc) (C := Try.checked) false ⟨#[], #[.agg #[.int .i64 0, .int .i64 0, .int .i64 0]], []⟩ 8 (by kernel_rfl) (by kernel_rfl) (by kernel_rfl) (by kernel_rfl)) ?_
  intro W base args ds gs before hval0 hW hcnd hz0 _
  have hz : (DataW.weightsEach Try.prog (Try.f5.params.toList ++ []) (ds ++ gs)).all (· ≤ reachBytes) = true := hz0
  have hval : ∀ (j : Nat) t v, Try.f5.params[j]? = some t → args[j]? = some v → Value.okWide Try.prog W .any base t v := hval0
  have hW' := hW
  obtain ⟨p, q, hA0, hV, rfl, hfz, hnd⟩ := hW
  have hA : DataW.TrodAll enc Try.prog W 0 (fun _ => true) true Try.f5.params.toList args.toList ds p := hA0
  rw [Try.params5] at hA hval hz
  obtain ⟨v0, d0, rfl, rfl, _, _⟩ := trodAll_one hA
  obtain ⟨rfl, rfl⟩ := trodVars_none hV
  refine (law_calls (P := Try.prog) (n := 4) (ts := [52]) (by kernel_rfl) hA hz (fun j t v ht hv => hval j t v (by simpa using ht) hv) (fun g xs _ hs => body5 g xs hs)).mono fun e W' ⟨he, hb⟩ => ?_
  subst he
  exact ⟨_, rfl, post_true (P := Try.prog) (t := 4) Try.laidOut (by rw [Try.params5]; intro t ht; simp at ht; subst ht; exact ⟨by kernel_rfl, by rw [Try.types_size]; decide⟩) rfl hW' (by kernel_rfl) (by kernel_rfl) rfl hb⟩

theorem holds : Rows.FrameNobodySaid :=
  OpenClaim.holds_of_wide 5 Try.f5 rfl rfl rfl rfl rfl rfl rfl ⟨rfl, rfl, rfl, rfl, rfl⟩ rfl rfl rfl rfl rfl (by kernel_rfl) Try.func5 (by kernel_rfl)
    (of_decide_eq_true (by kernel_rfl)) (by unfold Func.isWrapper; first | (rw [if_pos (by decide +kernel)]; kernel_rfl) | (rw [if_neg (by decide +kernel)]; exact ⟨rfl, rfl⟩))
    (fun os started H enc _ => lifted os started H enc)

#print axioms holds
end Go.Proofs.Ytoajcekgoalhjaa
