/-
  How tlb's ops are handed in.
-/
import Derived.Test.YtgncgokjbakdmaaTlB
import Derived.Test.YtgncgokjbakdmaaLm6x
set_option linter.all false
namespace Go.Proofs.Ytgncgokjbakdmaa
open Go.ChangeShapes Go.WideShapes Go.ChangeAt Go.RowKit Go.Lm
set_option maxRecDepth 100000
theorem u42 : Try.prog.underlying 42 = some (.int .u32) := by kernel_rfl
theorem by3 : Try.prog.bytesOf 3 = 8 := by kernel_rfl
theorem by44 : Try.prog.bytesOf 44 = 72 := by kernel_rfl
theorem shp_nums {g : LHeap} {n : Nat} {V : LV} (h : SlShp Try.prog g (n + 1) 3 V) : ∃ l, Row g V intE l ∧ l.length * 8 ≤ 140737488351232 := by
  obtain ⟨l, h1, _, _, _, h4⟩ := shp_row (E := intE) (Q := fun _ => True) (fun ys hy => by
    obtain ⟨x, rfl, _, _⟩ := shp_ints u3 ys hy
    exact ⟨x, rfl, trivial⟩) h
  rw [by3] at h4
  exact ⟨l, h1, h4⟩
theorem shp_ops {g : LHeap} {n : Nat} {V : LV} (h : SlShp Try.prog g (n + 3) 44 V) : ∃ ops, Row g V opE ops ∧ (∀ o ∈ ops, ∃ ts, Row g o.T intE ts ∧ ts.length * 8 ≤ 140737488351232) ∧ ops.length * 72 ≤ 140737488351232 := by
  obtain ⟨ops, h1, h2, _, _, h4⟩ := shp_row (E := opE) (Q := fun o : OpX => ∃ ts, Row g o.T intE ts ∧ ts.length * 8 ≤ 140737488351232) (fun ys hy => by
    obtain ⟨xss, rfl, hA⟩ := shp_fields Try.underlying44 hy
    obtain ⟨a, _, rfl, _, _, hA⟩ := alls_int u3 hA
    obtain ⟨b, _, rfl, _, _, hA⟩ := alls_int u3 hA
    obtain ⟨kss, _, rfl, hK, hA2⟩ := alls_struct Try.underlying41 hA
    obtain ⟨k1, _, rfl, _, _, hK⟩ := alls_int u3 hK
    obtain ⟨k2, _, rfl, _, _, hK⟩ := alls_int u3 hK
    obtain rfl := alls_nil hK
    obtain ⟨e, _, rfl, _, _, hA2⟩ := alls_int u42 hA2
    obtain ⟨m, _, rfl, _, _, hA2⟩ := alls_int u3 hA2
    obtain ⟨T, _, rfl, hT, hA3⟩ := alls_slice ty24 hA2
    obtain rfl := alls_nil hA3
    obtain ⟨ts, hR, hl⟩ := shp_nums hT
    exact ⟨⟨a, b, (k1, k2), e, m, T⟩, by simp [opE, hR.cell, u32V], ts, hR, hl⟩) h
  rw [by44] at h4
  exact ⟨ops, h1, h2, h4⟩
end Go.Proofs.Ytgncgokjbakdmaa
