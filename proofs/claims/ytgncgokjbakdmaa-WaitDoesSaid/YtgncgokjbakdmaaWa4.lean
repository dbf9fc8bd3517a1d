/-
  waitq: New, made, Sleepers.
-/
import Derived.Test.YtgncgokjbakdmaaWa3
set_option linter.all false
namespace Go.Proofs.Ytgncgokjbakdmaa
open Go.ChangeShapes Go.WideShapes Go.ChangeAt Go.RowKit Go.Lm
set_option linter.unusedSimpArgs false
variable {g g' : LHeap} {q n ms mo nS : Nat} {col : Nat → Option Tag} {on : Int → Option (List Chan)} {sl : Chan → List Int} {mpS : Chan → Option LV} {mpO : Int → Option LV}
set_option maxRecDepth 10000 in
theorem bl82 (a b : Nat) : buildL Try.prog 82 [(0, .map a), (1, .map b)] = some (.agg [.map a, .map b]) := by kernel_rfl
theorem new_ok {g : LHeap} : Ok Try.prog 12 [] g fun v h => ∃ q col, v = .ptr q 0 ∧ WQ h q col (fun _ => none) (fun _ => []) 0 ∧ Fr noF g h ∧ ∀ a, a < g.next → col a = none := by
  refine ok12 fun wf lt => ?_
  have hn : ∀ (a b : Nat) (h : LHeap), newL (.agg [.map a, .map b]) h = some (.ptr h.next 0, h.alloc (.cells [.map a, .map b] .ex)) := fun a b h => new_agg _ _ (by simp [LV.cell])
  simp (disch := omega) only [F12, sh, bl82, hn, LHeap.next_alloc, mkK]
  have e1 := get_alloc_eq g (.map [] 0 .ex)
  refine ⟨g.next + 1 + 1, fun a => if a = g.next then some .ms else if a = g.next + 1 then some .mo else if a = g.next + 1 + 1 then some .q else none, rfl, ⟨g.next, g.next + 1, fun _ => none, fun _ => none, 0, ⟨?_, ?_, ?_, (by show (if _ then _ else _) = _; rw [if_neg (by omega), if_neg (by omega), if_pos rfl]), (by show (if _ then _ else _) = _; rw [if_pos rfl]), (by show (if _ then _ else _) = _; rw [if_neg (by omega), if_pos rfl]), fun c => .inl ⟨rfl, rfl⟩, fun t => .inl ⟨rfl, rfl⟩, fun a ha => ?_, fun c => List.nodup_nil, (fun c t h => by cases h), by omega, (fun t l h => by cases h)⟩⟩, ((Fr.alloc _ _).alloc' _).alloc' _, fun a ha => ?_⟩
  · have := get_alloc_eq ((g.alloc (.map [] 0 .ex)).alloc (.map [] 0 .ex)) (.cells [.map g.next, .map (g.next + 1)] .ex)
    simpa using this
  · have := MapIs.new g chanK.k
    refine (this.fr ?_)
    exact ((Fr.alloc (g.alloc (.map [] 0 .ex)) _).alloc' _).eq _ (by rw [LHeap.next_alloc]; omega) id
  · have := MapIs.new (g.alloc (.map [] 0 .ex)) intK.k
    rw [LHeap.next_alloc] at this
    refine (this.fr ?_)
    exact (Fr.alloc _ _).eq _ (by rw [LHeap.next_alloc, LHeap.next_alloc]; omega) id
  · simp only [LHeap.next_alloc]
    by_cases h1 : a = g.next
    · omega
    · by_cases h2 : a = g.next + 1
      · omega
      · by_cases h3 : a = g.next + 1 + 1
        · omega
        · simp [h1, h2, h3] at ha
  · show (if _ then _ else _) = _
    rw [if_neg (by omega), if_neg (by omega), if_neg (by omega)]
set_option maxRecDepth 4000 in
theorem made_ok (D : WQ g q col on sl n) : Ok Try.prog 40 [.ptr q 0] g fun v h => v = .bool true ∧ h = g := by
  obtain ⟨ms, mo, mpS, mpO, nS, D⟩ := D
  refine ok40 fun wf lt => ?_
  have x := D.at_
  simp (disch := omega) only [F40, sh, sh2, shs, shc, shi, dec, x, nil_p ty25, nil_m ty80]
theorem WQd.sleepRow (D : WQd g q col on sl n ms mo mpS mpO nS) (c : Chan) : ∃ V, lookupL Try.prog 79 (.map ms) (.agg (chanE.f c)) false g = some V ∧ Row g V intE (sl c) ∧ Grow g V 1 ∧ Mine g V ∧ (∀ a, V.obj = some a → col a = some (.s c)) ∧ V = (mpS c).getD .nils := by
  have h := D.mapS.lookup chanK ty79 zr24 c false
  rcases D.sls c with ⟨h1, h2⟩ | ⟨V, a, h1, h2, h3, h4, h5, h6, h7⟩
  · rw [h1] at h
    exact ⟨.nils, h, by rw [h2]; exact Row.nils _ _, trivial, trivial, (fun a ha => by cases ha), by rw [h1]; rfl⟩
  · rw [h1] at h
    exact ⟨V, h, h5, h6, h7, (fun b hb => by rw [h3] at hb; cases hb; exact h4), by rw [h1]; rfl⟩
theorem sleepers_ok (D : WQ g q col on sl n) (c : Chan) : Ok Try.prog 17 [.ptr q 0, .agg (chanE.f c)] g fun v h => Vec intE g.next h v (sl c) ∧ Mine h v ∧ Fr noF g h := by
  refine ok17 fun wf lt => ?_
  have hn : newL (.agg (chanE.f c)) g = some (.ptr g.next 0, g.alloc (.cells (chanE.f c) .ex)) := new_agg _ _ (chanE.cell c)
  have hx : cellO (some 3) 0 (some (.cells (chanE.f c) .ex)) = some (.agg (chanE.f c)) := by
    rw [cells_o _ _ _ _ (by rw [chanE.len]; decide), List.drop_zero, List.take_of_length_le (by rw [chanE.len]; decide)]
  have f1 : Fr noF g (g.alloc (.cells (chanE.f c) .ex)) := Fr.alloc _ _
  have D := D.up f1 fun _ h => h.elim
  simp (disch := omega) only [F17, sh, hn]
  refine (made_ok D).mono ?_
  rintro _ _ ⟨rfl, rfl⟩
  obtain ⟨ms, mo, mpS, mpO, nS, D⟩ := D
  have x := D.at_
  obtain ⟨V, hv, R, _, _, _, _⟩ := D.sleepRow c
  have := D.few c
  simp (disch := omega) only [sh, sh2, shs, shc, shi, dec, x, hx, hv]
  refine (clone43_ok R (by omega)).mono ?_
  rintro v h ⟨O, mi, f⟩
  exact ⟨⟨O.row, O.grow, fun a ha => ⟨Nat.le_trans f1.le (O.lo a ha).1, (O.lo a ha).2⟩⟩, mi, f1.trans f⟩
end Go.Proofs.Ytgncgokjbakdmaa
