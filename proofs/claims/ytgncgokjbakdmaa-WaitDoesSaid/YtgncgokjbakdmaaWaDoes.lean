/-
  parapetlaw12.WaitDoes returns true for every row of ops: no condition.
-/
import Derived.Test.YtgncgokjbakdmaaWaT
import Derived.SizedLaws
set_option linter.all false
namespace Go.Proofs.Ytgncgokjbakdmaa
open Go.ChangeShapes Go.WideShapes Go.ChangeAt Go.RowKit Go.Lm
set_option maxRecDepth 100000
theorem shp_chans' {g : LHeap} {n : Nat} {V : LV} (h : SlShp Try.prog g (n + 2) 23 V) : ∃ l, Row g V chanE l ∧ Capd V 3 ∧ l.length * 24 ≤ 140737488351232 := by
  obtain ⟨l, h1, _, h2, h3, h4⟩ := shp_row (E := chanE) (Q := fun _ => True) shp_chan h
  rw [by23] at h4
  exact ⟨l, h1, h2, h4⟩
theorem shp_ops2 {g : LHeap} {n : Nat} {V : LV} (h : SlShp Try.prog g (n + 4) 56 V) : ∃ ops, Row g V opE ops ∧ (∀ o ∈ ops, ∃ l, Row g o.L chanE l ∧ Capd o.L 3 ∧ l.length * 24 ≤ 140737488351232) ∧ ops.length * 96 ≤ 140737488351232 := by
  obtain ⟨ops, h1, h2, _, _, h4⟩ := shp_row (E := opE) (Q := fun o : OpX => ∃ l, Row g o.L chanE l ∧ Capd o.L 3 ∧ l.length * 24 ≤ 140737488351232) (fun ys hy => by
    obtain ⟨xss, rfl, hA⟩ := shp_fields Try.underlying56 hy
    obtain ⟨a, _, rfl, _, _, hA⟩ := alls_int u3 hA
    obtain ⟨b, _, rfl, _, _, hA⟩ := alls_int u3 hA
    obtain ⟨L, _, rfl, hL, hA⟩ := alls_slice ty30 hA
    obtain ⟨kss, _, rfl, hK, hB⟩ := alls_struct Try.underlying23 hA
    obtain ⟨k1, _, rfl, _, _, hK⟩ := alls_int u3 hK
    obtain ⟨k2, _, rfl, _, _, hK⟩ := alls_int u3 hK
    obtain ⟨k3, _, rfl, _, _, hK⟩ := alls_int u3 hK
    obtain rfl := alls_nil hK
    obtain ⟨jss, _, rfl, hJ, hC⟩ := alls_struct Try.underlying23 hB
    obtain ⟨j1, _, rfl, _, _, hJ⟩ := alls_int u3 hJ
    obtain ⟨j2, _, rfl, _, _, hJ⟩ := alls_int u3 hJ
    obtain ⟨j3, _, rfl, _, _, hJ⟩ := alls_int u3 hJ
    obtain rfl := alls_nil hJ
    obtain ⟨m, _, rfl, _, _, hD⟩ := alls_int u3 hC
    obtain rfl := alls_nil hD
    obtain ⟨l, hR, hC, hl⟩ := shp_chans' hL
    exact ⟨⟨a, b, L, (k1, k2, k3), (j1, j2, j3), m⟩, by simp [opE, hR.cell], l, hR, hC, hl⟩) h
  rw [by56] at h4
  exact ⟨ops, h1, h2, h4⟩
theorem body10 (g : LHeap) (xs : List LV) (h : ShpArgs Try.prog g 7 [53] xs) : Ok Try.prog 10 xs g fun v _ => v = .bool true := by
  obtain ⟨V, ys, rfl, hV, h⟩ := shp_slice ty53 h
  obtain ⟨ops, R, hT, hl⟩ := shp_ops2 hV
  obtain rfl := shp_nil h
  exact waitdoes_any R (by omega) hT

set_option maxRecDepth 100000 in
theorem lifted (os : Os) (started : os.Started) (H : Type) (enc : TypeId × Value → H) :
    ReturnsInHanded {} Try.checked os 10 .any (Rows.waitDoesSpec.pre6 enc Try.prog Try.f10 Rows.waitDoesRow.domain false) (Rows.waitDoesSpec.post enc Try.prog Try.f10 false true false false) := by
  refine returnsInHanded_of_change_sized (C := Try.checked) Try.own started (by kernel_rfl) Try.func10
    (ChangeSpec.witness6 (enc := enc) (C := Try.checked) false ⟨#[], #[.slice none 0 0], []⟩ 8 (by kernel_rfl) (by kernel_rfl) (by kernel_rfl) (by kernel_rfl)) ?_
  intro W base args ds gs before hval0 hW hcnd hz0 _
  have hz : (DataW.weightsEach Try.prog (Try.f10.params.toList ++ []) (ds ++ gs)).all (· ≤ reachBytes) = true := hz0
  have hval : ∀ (j : Nat) t v, Try.f10.params[j]? = some t → args[j]? = some v → Value.okWide Try.prog W .any base t v := hval0
  have hW' := hW
  obtain ⟨p, q, hA0, hV, rfl, hfz, hnd⟩ := hW
  have hA : DataW.TrodAll enc Try.prog W 0 (fun _ => true) true Try.f10.params.toList args.toList ds p := hA0
  rw [Try.params10] at hA hval hz
  obtain ⟨v0, d0, _, rfl, _⟩ := trodAll_one hA
  obtain ⟨rfl, rfl⟩ := trodVars_none hV
  refine (law_calls (P := Try.prog) (n := 7) (ts := [53]) (by kernel_rfl) hA hz (fun j t v ht hv => hval j t v (by simpa using ht) hv) (fun g xs _ hs => body10 g xs hs)).mono fun e W' ⟨he, hb⟩ => ?_
  subst he
  exact ⟨_, rfl, post_true (P := Try.prog) (t := 4) Try.laidOut (by rw [Try.params10]; intro t ht; simp at ht; rcases ht with rfl | rfl <;> exact ⟨by kernel_rfl, by rw [Try.types_size]; decide⟩) rfl hW' (by kernel_rfl) (by kernel_rfl) rfl hb⟩

theorem holds : Rows.WaitDoesSaid :=
  OpenClaim.holds_of_wide 10 Try.f10 rfl rfl rfl rfl rfl rfl rfl ⟨rfl, rfl, rfl, rfl, rfl⟩ rfl rfl rfl rfl rfl (by kernel_rfl) Try.func10 (by kernel_rfl)
    (of_decide_eq_true (by kernel_rfl)) (by unfold Func.isWrapper; first | (rw [if_pos (by decide +kernel)]; kernel_rfl) | (rw [if_neg (by decide +kernel)]; exact ⟨rfl, rfl⟩))
    (fun os started H enc _ => lifted os started H enc)

#print axioms holds
end Go.Proofs.Ytgncgokjbakdmaa
