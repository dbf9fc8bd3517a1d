/-
  How waitq's ops are handed in.
-/
import Derived.Test.YtgncgokjbakdmaaWaD
import Derived.Test.YtgncgokjbakdmaaLm6x
set_option linter.all false
namespace Go.Proofs.Ytgncgokjbakdmaa
open Go.ChangeShapes Go.WideShapes Go.ChangeAt Go.RowKit Go.Lm
set_option maxRecDepth 100000
theorem by23 : Try.prog.bytesOf 23 = 24 := by kernel_rfl
theorem by56 : Try.prog.bytesOf 56 = 96 := by kernel_rfl
theorem shp_chan {g : LHeap} {n : Nat} (ys : List LV) (h : Shp Try.prog g (n + 2) 23 ys) : ∃ c : Chan, ys = chanE.f c ∧ True := by
  obtain ⟨xss, rfl, hA⟩ := shp_fields Try.underlying23 h
  obtain ⟨a, _, rfl, _, _, hA⟩ := alls_int u3 hA
  obtain ⟨b, _, rfl, _, _, hA⟩ := alls_int u3 hA
  obtain ⟨c, _, rfl, _, _, hA⟩ := alls_int u3 hA
  obtain rfl := alls_nil hA
  exact ⟨(a, b, c), rfl, trivial⟩
theorem shp_chans {g : LHeap} {n : Nat} {V : LV} (h : SlShp Try.prog g (n + 2) 23 V) : ∃ l, Row g V chanE l ∧ Capd V 3 ∧ l.length < 9223372036854775808 := by
  obtain ⟨l, h1, _, h2, h3, _⟩ := shp_row (E := chanE) (Q := fun _ => True) shp_chan h
  have : maxLen < 9223372036854775808 := by decide
  exact ⟨l, h1, h2, by omega⟩
theorem shp_ops {g : LHeap} {n : Nat} {V : LV} (h : SlShp Try.prog g (n + 4) 56 V) : ∃ ops, Row g V opE ops ∧ (∀ o ∈ ops, ∃ l, Row g o.L chanE l ∧ Capd o.L 3 ∧ l.length < 9223372036854775808) ∧ ops.length * 96 ≤ 140737488351232 := by
  obtain ⟨ops, h1, h2, _, _, h4⟩ := shp_row (E := opE) (Q := fun o : OpX => ∃ l, Row g o.L chanE l ∧ Capd o.L 3 ∧ l.length < 9223372036854775808) (fun ys hy => by
    obtain ⟨xss, rfl, hA⟩ := shp_fields Try.underlying56 hy
    obtain ⟨a, _, rfl, _, _, hA⟩ := alls_int u3 hA
    obtain ⟨b, _, rfl, _, _, hA⟩ := alls_int u3 hA
    obtain ⟨L, _, rfl, hL, hA⟩ := alls_slice ty30 hA
    obtain ⟨kss, _, rfl, hK, hB⟩ := alls_struct Try.underlying23 hA
    obtain ⟨k1, _, rfl, _, _, hK⟩ := alls_int u3 hK
    obtain ⟨k2, _, rfl, _, _, hK⟩ := alls_int u3 hK
    obtain ⟨k3, _, rfl, _, _, hK⟩ := alls_int u3 hK
    obtain rfl := alls_nil hK
    obtain ⟨jss, _, rfl, hJ, hC⟩ := alls_struct Try.underlying23 hB
    obtain ⟨j1, _, rfl, _, _, hJ⟩ := alls_int u3 hJ
    obtain ⟨j2, _, rfl, _, _, hJ⟩ := alls_int u3 hJ
    obtain ⟨j3, _, rfl, _, _, hJ⟩ := alls_int u3 hJ
    obtain rfl := alls_nil hJ
    obtain ⟨m, _, rfl, _, _, hD⟩ := alls_int u3 hC
    obtain rfl := alls_nil hD
    obtain ⟨l, hR, hC, hl⟩ := shp_chans hL
    exact ⟨⟨a, b, L, (k1, k2, k3), (j1, j2, j3), m⟩, by simp [opE, hR.cell], l, hR, hC, hl⟩) h
  rw [by56] at h4
  exact ⟨ops, h1, h2, h4⟩
end Go.Proofs.Ytgncgokjbakdmaa
