/-
  parapetlaw15.BufBack returns true for every number and every row of ops: no condition.
-/
import Derived.Test.YtoajcekgoalhjaaBfG
import Derived.SizedLaws
set_option linter.all false
namespace Go.Proofs.Ytoajcekgoalhjaa
open Go.ChangeShapes Go.WideShapes Go.ChangeAt Go.RowKit Go.Lm
set_option maxRecDepth 100000
theorem body9 (g : LHeap) (xs : List LV) (h : ShpArgs Try.prog g 6 [3, 22] xs) : Ok Try.prog 9 xs g fun v _ => v = .bool true := by
  obtain ⟨a, ys, rfl, _, _, h⟩ := shp_int u3 h
  obtain ⟨V, ys, rfl, hV, h⟩ := shp_slice ty22 h
  obtain ⟨ops, R, hl⟩ := shp_ops hV
  obtain rfl := shp_nil h
  exact back_any R hl a



set_option maxRecDepth 100000 in
theorem lifted (os : Os) (started : os.Started) (H : Type) (enc : TypeId × Value → H) :
    ReturnsInHanded {} Try.checked os 9 .any (Rows.bufBackSpec.pre6 enc Try.prog Try.f9 Rows.bufBackRow.domain false) (Rows.bufBackSpec.post enc Try.prog Try.f9 false true false false) := by
  refine returnsInHanded_of_change_sized (C := Try.checked) Try.own started (by kernel_rfl) Try.func9
    (ChangeSpec.witness6 (enc := enc) (C := Try.checked) false ⟨#[], #[.int .i64 0, .slice none 0 0], []⟩ 8 (by kernel_rfl) (by kernel_rfl) (by kernel_rfl) (by kernel_rfl)) ?_
  intro W base args ds gs before hval0 hW hcnd hz0 _
  have hz : (DataW.weightsEach Try.prog (Try.f9.params.toList ++ []) (ds ++ gs)).all (· ≤ reachBytes) = true := hz0
  have hval : ∀ (j : Nat) t v, Try.f9.params[j]? = some t → args[j]? = some v → Value.okWide Try.prog W .any base t v := hval0
  have hW' := hW
  obtain ⟨p, q, hA0, hV, rfl, hfz, hnd⟩ := hW
  have hA : DataW.TrodAll enc Try.prog W 0 (fun _ => true) true Try.f9.params.toList args.toList ds p := hA0
  rw [Try.params9] at hA hval hz
  obtain ⟨v0, v1, d0, d1, p0, p1, _, rfl, _, _, _⟩ := trodAll_two hA
  obtain ⟨rfl, rfl⟩ := trodVars_none hV
  refine (law_calls (P := Try.prog) (n := 6) (ts := [3, 22]) (by kernel_rfl) hA hz (fun j t v ht hv => hval j t v (by simpa using ht) hv) (fun g xs _ hs => body9 g xs hs)).mono fun e W' ⟨he, hb⟩ => ?_
  subst he
  exact ⟨_, rfl, post_true (P := Try.prog) (t := 4) Try.laidOut (by rw [Try.params9]; intro t ht; simp at ht; rcases ht with rfl | rfl <;> exact ⟨by kernel_rfl, by rw [Try.types_size]; decide⟩) rfl hW' (by kernel_rfl) (by kernel_rfl) rfl hb⟩

theorem holds : Rows.BufBackSaid :=
  OpenClaim.holds_of_wide 9 Try.f9 rfl rfl rfl rfl rfl rfl rfl ⟨rfl, rfl, rfl, rfl, rfl⟩ rfl rfl rfl rfl rfl (by kernel_rfl) Try.func9 (by kernel_rfl)
    (of_decide_eq_true (by kernel_rfl)) (by unfold Func.isWrapper; first | (rw [if_pos (by decide +kernel)]; kernel_rfl) | (rw [if_neg (by decide +kernel)]; exact ⟨rfl, rfl⟩))
    (fun os started H enc _ => lifted os started H enc)

#print axioms holds
end Go.Proofs.Ytoajcekgoalhjaa

