/-
  parapetlaw12.WaitFair returns true for every channel, every row of threads and every row of numbers: no condition.
-/
import Derived.Test.YtgncgokjbakdmaaWaA
import Derived.Test.YtgncgokjbakdmaaLm6x
set_option linter.all false
namespace Go.Proofs.Ytgncgokjbakdmaa
open Go.ChangeShapes Go.WideShapes Go.ChangeAt Go.RowKit Go.Lm
set_option maxRecDepth 100000
theorem shp_nums {g : LHeap} {n : Nat} {V : LV} (h : SlShp Try.prog g (n + 1) 3 V) : ∃ l, Row g V intE l ∧ l.length ≤ maxLen := by
  obtain ⟨l, h1, _, _, h4⟩ := shp_row (E := intE) (Q := fun _ => True) (fun ys hy => by
    obtain ⟨x, rfl, _, _⟩ := shp_ints u3 ys hy
    exact ⟨x, rfl, trivial⟩) h
  exact ⟨l, h1, h4⟩
theorem body3 (g : LHeap) (xs : List LV) (h : ShpArgs Try.prog g 4 [23, 24, 24] xs) : Ok Try.prog 3 xs g fun v _ => v = .bool true := by
  obtain ⟨yss, zs, rfl, hy, h2⟩ := shp_struct Try.underlying23 h
  obtain ⟨a, _, rfl, _, _, hy⟩ := alls_int u3 hy
  obtain ⟨b, _, rfl, _, _, hy⟩ := alls_int u3 hy
  obtain ⟨c, _, rfl, _, _, hy⟩ := alls_int u3 hy
  obtain rfl := alls_nil hy
  obtain ⟨T, _, rfl, hT, h3⟩ := shp_slice ty24 h2
  obtain ⟨W, _, rfl, hW, h4⟩ := shp_slice ty24 h3
  obtain rfl := shp_nil h4
  obtain ⟨ts, RT, h1⟩ := shp_nums hT
  obtain ⟨ws, RW, h5⟩ := shp_nums hW
  have : maxLen < 9223372036854775808 := by decide
  exact fair_any RT RW (by omega) (by omega)

set_option maxRecDepth 100000 in
theorem lifted (os : Os) (started : os.Started) (H : Type) (enc : TypeId × Value → H) :
    ReturnsInHanded {} Try.checked os 3 .any (Rows.waitFairSpec.pre6 enc Try.prog Try.f3 Rows.waitFairRow.domain false) (Rows.waitFairSpec.post enc Try.prog Try.f3 false true false false) := by
  refine returnsInHanded_of_change (C := Try.checked) Try.own started (by kernel_rfl) Try.func3
    (ChangeSpec.witness6 (enc := enc) (C := Try.checked) false ⟨#[], #[.agg #[.int .i64 0, .int .i64 0, .int .i64 0], .slice none 0 0, .slice none 0 0], []⟩ 8 (by kernel_rfl) (by kernel_rfl) (by kernel_rfl) (by kernel_rfl)) ?_
  intro W base args ds gs before hval0 hW hcnd _
  have hval : ∀ (j : Nat) t v, Try.f3.params[j]? = some t → args[j]? = some v → Value.okWide Try.prog W .any base t v := hval0
  have hW' := hW
  obtain ⟨p, q, hA0, hV, rfl, hfz, hnd⟩ := hW
  have hA : DataW.TrodAll enc Try.prog W 0 (fun _ => true) true Try.f3.params.toList args.toList ds p := hA0
  rw [Try.params3] at hA hval
  obtain ⟨v0, v1, v2, d0, d1, d2, p0, p1, p2, _, rfl, _, _, _, _⟩ := trodAll_three hA
  obtain ⟨rfl, rfl⟩ := trodVars_none hV
  refine (law_calls (P := Try.prog) (n := 4) (ts := [23, 24, 24]) (by kernel_rfl) hA (fun j t v ht hv => hval j t v (by simpa using ht) hv) (fun g xs _ hs => body3 g xs hs)).mono fun e W' ⟨he, hb⟩ => ?_
  subst he
  exact ⟨_, rfl, post_true (P := Try.prog) (t := 4) Try.laidOut (by rw [Try.params3]; intro t ht; simp at ht; rcases ht with rfl | rfl | rfl <;> exact ⟨by kernel_rfl, by rw [Try.types_size]; decide⟩) rfl hW' (by kernel_rfl) (by kernel_rfl) rfl hb⟩

theorem holds : Rows.WaitFairSaid :=
  OpenClaim.holds_of_wide 3 Try.f3 rfl rfl rfl rfl rfl rfl rfl ⟨rfl, rfl, rfl, rfl, rfl⟩ rfl rfl rfl rfl rfl (by kernel_rfl) Try.func3 (by kernel_rfl)
    (of_decide_eq_true (by kernel_rfl)) (by unfold Func.isWrapper; first | (rw [if_pos (by decide +kernel)]; kernel_rfl) | (rw [if_neg (by decide +kernel)]; exact ⟨rfl, rfl⟩))
    (fun os started H enc _ => lifted os started H enc)

#print axioms holds
end Go.Proofs.Ytgncgokjbakdmaa
