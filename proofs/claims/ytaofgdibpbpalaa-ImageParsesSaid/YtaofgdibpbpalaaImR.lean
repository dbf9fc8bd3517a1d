/-
  parapetref23.Parse: what it tells of any bytes.
-/
import Derived.Test.YtaofgdibpbpalaaImQ
import Derived.Test.YtaofgdibpbpalaaLm6x
set_option linter.all false
namespace Go.Proofs.Ytaofgdibpbpalaa
open Go.ChangeShapes Go.WideShapes Go.ChangeAt Go.RowKit Go.Lm
set_option linter.unusedSimpArgs false
def Rows (ss : List (Int × LV)) (sg : List Seg) : Thing := ⟨fun a => ∃ s ∈ ss, s.2.obj = some a, fun h => All2 (SegR h) ss sg, fun _ _ k H => H.monoM fun s _ hs r => ⟨r.1, r.2.fr fun a ha => k a ⟨s, hs, ha⟩⟩⟩
theorem Rows.snoc {F : Nat → Prop} {g h h' : LHeap} {Ts : List Thing} {ss : List (Int × LV)} {sg : List Seg} (S : Sep F g h Ts) (k : Nat) (hk : Ts[k]? = some (Rows ss sg)) (f : Fr noF h h') {a : Int} {V : LV} {bs : List Int} (R : Row h' V byteE bs) (hV : ∀ b, V.obj = some b → h.next ≤ b ∧ b < h'.next) :
    Sep F g h' (Ts.set k (Rows (ss ++ [(a, V)]) (sg ++ [(a, bs)]))) := by
  refine S.put k hk _ (f.mono fun _ _ => False.elim) ?_ ?_
  · have h0 : All2 (SegR h') ss sg := (S.pure f).at k hk
    exact h0.snoc ⟨rfl, R⟩
  · rintro b ⟨s, hs, hb⟩
    rcases List.mem_append.1 hs with hs | hs
    · have : b < h.next := S.lt k hk ⟨s, hs, hb⟩
      exact ⟨.inl ⟨s, hs, hb⟩, Nat.lt_of_lt_of_le this f.le⟩
    · rw [List.mem_singleton.1 hs] at hb
      have := hV b hb
      exact ⟨.inr this.1, this.2⟩
set_option maxRecDepth 10000 in
theorem bl92_2 (x : Int) {V : LV} (hc : V.cell = true) : buildL Try.prog 92 [(0, i x), (1, V)] = some (.agg [i x, V]) := by
  have e : buildL Try.prog 92 [(0, i x), (1, V)] = (if V.cells.length ≠ 1 ∨ 1 + 1 > 2 then none else some (splice [i x, .nils] 1 V.cells)).map .agg := by kernel_rfl
  rw [e, cells_one hc]
  rfl
set_option maxRecDepth 10000 in
theorem bs24_2 (x : Int) {V : LV} (hc : V.cell = true) (h : LHeap) : buildSliceL Try.prog 24 1 [(0, .agg [i x, V])] h = some (.slice h.next 0 1 (.ex 1), h.alloc (.cells [i x, V] .ex)) := by
  have e : buildSliceL Try.prog 24 1 [(0, .agg [i x, V])] h = if LV.cell V && true then some (.slice h.next 0 1 (.ex 1), h.alloc (.cells [i x, V] .ex)) else none := by kernel_rfl
  rw [e, hc]
  rfl
end Go.Proofs.Ytaofgdibpbpalaa
