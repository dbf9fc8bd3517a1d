/-
  waitq: a thread leaves a channel.
-/
import Derived.Test.YtgncgokjbakdmaaWa4
set_option linter.all false
namespace Go.Proofs.Ytgncgokjbakdmaa
open Go.ChangeShapes Go.WideShapes Go.ChangeAt Go.RowKit Go.Lm
set_option linter.unusedSimpArgs false
variable {g g' : LHeap} {q n ms mo nS : Nat} {col : Nat → Option Tag} {on : Int → Option (List Chan)} {sl : Chan → List Int} {mpS : Chan → Option LV} {mpO : Int → Option LV}
theorem Row.obj {X : Type} {E : Enc X} {V : LV} {l : List X} (R : Row g V E l) (h : l ≠ []) : ∃ a, V.obj = some a := by
  rcases R with ⟨h', _⟩ | ⟨a, off, c, vs, own, rfl, _⟩
  · exact absurd h' h
  · exact ⟨a, rfl⟩
theorem ext76 (x y : LV) : extL Try.prog 76 [x, y] = none := by kernel_rfl
theorem eq76 {g : LHeap} {p : Nat} {x t : Int} (h : g.get p = some (.cells [i t] .ex)) : Ok Try.prog 76 [i x, .ptr p 0] g fun v h => v = .bool (x == t) ∧ h = g := by
  refine ok76 fun wf lt => ?_
  by_cases e : x = t <;> simp (disch := omega) only [F76, sh, sh2, shs, shc, shi, dec, h, i] <;> simp [e]
set_option maxRecDepth 4000 in
theorem leave_ok (D : WQd g q col on sl n ms mo mpS mpO nS) (tid : Int) (c : Chan) : Ok Try.prog 49 [.ptr q 0, i tid, .agg (chanE.f c)] g fun v h => v = .tuple [] ∧ ∃ col' mpS' nS', WQd h q col' on (upd sl c ((sl c).filter fun t => !(t == tid))) n ms mo mpS' mpO nS' ∧ FrQ g col h col' := by
  refine ok49 fun wf lt => ?_
  have f1 : Fr noF g (g.alloc (.cells [i tid] .ex)) := Fr.alloc _ _
  have hn : newL (i tid) g = some (.ptr g.next 0, g.alloc (.cells [i tid] .ex)) := new_cell _ rfl
  have hn2 : newL (.agg (chanE.f c)) (g.alloc (.cells [i tid] .ex)) = some (.ptr (g.next + 1) 0, (g.alloc (.cells [i tid] .ex)).alloc (.cells (chanE.f c) .ex)) := new_agg _ _ (chanE.cell c)
  have hx : cellO (some 3) 0 (some (.cells (chanE.f c) .ex)) = some (.agg (chanE.f c)) := by
    rw [cells_o _ _ _ _ (by rw [chanE.len]; decide), List.drop_zero, List.take_of_length_le (by rw [chanE.len]; decide)]
  generalize hg0 : (g.alloc (.cells [i tid] .ex)).alloc (.cells (chanE.f c) .ex) = g0
  have f2 : Fr noF g g0 := by subst hg0; exact f1.alloc' _
  have p1 : g0.get g.next = some (.cells [i tid] .ex) := by subst hg0; rw [(Fr.alloc _ _).eq _ (by rw [LHeap.next_alloc]; omega) id, get_alloc_eq]
  have p2 : g0.get (g.next + 1) = some (.cells (chanE.f c) .ex) := by subst hg0; exact get_alloc_eq (g.alloc (.cells [i tid] .ex)) _
  have n0 : g0.next = g.next + 2 := by subst hg0; rfl
  have D1 := D.up f2 fun _ h => h.elim
  have x0 := D1.at_
  obtain ⟨V, hv, R, _, _, hVo, hVe⟩ := D1.sleepRow c
  have hfew := D1.few c
  -- what comes behind DeleteFunc
  have tail : ∀ U h, Vec intE g0.next h U ((sl c).filter fun t => !(t == tid)) → Mine h U → Fr noF g0 h → J49_1 (.ptr q 0) (.ptr (g.next + 1) 0) U h fun v h => v = .tuple [] ∧ ∃ col' mpS' nS', WQd h q col' on (upd sl c ((sl c).filter fun t => !(t == tid))) n ms mo mpS' mpO nS' ∧ FrQ g col h col' := by
    intro U h O mi f
    have D2 := D1.up f fun _ h => h.elim
    have x := D2.at_
    have p2' : h.get (g.next + 1) = some (.cells (chanE.f c) .ex) := (f.eq _ (by omega) id).trans p2
    have hl := O.row.len ty24
    generalize hf : (sl c).filter (fun t => !(t == tid)) = l at O hl ⊢
    by_cases he : l = []
    · subst he
      obtain ⟨H, e, hm, fm⟩ := D2.mapS.del chanK ty79 c [23]
      have e : builtinL Try.prog .delete [79, 23] [.map ms, .agg (chanE.f c)] h = some (undefL, H) := e
      obtain ⟨D3, fq⟩ := D2.delS (c := c) (fm.mono fun _ _ h => .inl h) hm
      simp (disch := omega) only [J49_1, sh, sh2, shs, shc, shi, dec, x, p2', hx, b_len, hl, List.length_nil, e]
      exact ⟨col, _, _, D3, (FrQ.of (f2.trans f)).trans fq⟩
    · have hpos : 0 < l.length := List.length_pos_iff.2 he
      obtain ⟨a, ha⟩ := Row.obj O.row he
      obtain ⟨H, e, hm, fm⟩ := D2.mapS.set chanK ty79 c U
      have e : mapSetL Try.prog 79 (.map ms) (.agg (chanE.f c)) U h = some H := e
      have hms : ms < g0.next := D1.lt ms (by rw [D1.cs]; simp)
      have hk : ∀ b, U.obj = some b → H.get b = h.get b := fun b hb => fm.eq b (O.lo b hb).2 (by have := (O.lo b hb).1; omega)
      obtain ⟨col', D3, fq⟩ := D1.putS (c := c) (V := U) (a := a) (l := l) ((f.mono fun _ _ h => h.elim).trans (fm.mono fun _ _ h => .inl h)) hm he ha (.inl ⟨(O.lo a ha).1, Nat.lt_of_lt_of_le (O.lo a ha).2 fm.le⟩) (O.row.fr hk) (O.grow.fr hk) (mi.fr hk) (by rw [← hf]; exact (D1.nod c).filter _) (fun t ht => D1.mem c t (by rw [← hf] at ht; exact (List.mem_filter.1 ht).1))
      · simp (disch := omega) only [J49_1, sh, sh2, shs, shc, shi, dec, x, p2', hx, b_len, hl, e]
        exact ⟨col', _, _, D3, (FrQ.of f2).trans fq⟩
  have mid : ∀ U h, Vec intE g0.next h U (sl c) → Mine h U → Fr noF g0 h → Ok Try.prog 75 [U, .func (.func 76) [] [.ptr g.next 0]] h fun v h => J49_1 (.ptr q 0) (.ptr (g.next + 1) 0) v h fun v h => v = .tuple [] ∧ ∃ col' mpS' nS', WQd h q col' on (upd sl c ((sl c).filter fun t => !(t == tid))) n ms mo mpS' mpO nS' ∧ FrQ g col h col' := by
    intro U h O mi f
    refine (deleteFunc75_ok (p := fun t => t == tid) O mi (by omega) fun h' x K f' hK => ?_).mono ?_
    · rw [callV_f (ext76 _ _)]
      refine (eq76 (t := tid) ?_).mono ?_
      · rw [f'.eq _ (by have := f.le; omega) fun ha => by have := (O.lo _ ha).1; omega, f.eq _ (by omega) id, p1]
      · rintro _ _ ⟨rfl, rfl⟩
        exact hK
    · rintro v h' ⟨O', mi', f', _⟩
      exact tail v h' O' mi' (f.trans' f' fun b hb hU => by have := (O.lo _ hU).1; omega)
  simp (disch := omega) only [F49, J49_0, sh, sh2, shs, shc, shi, dec, hn, hn2, hg0, x0, p2, hx, hv, LHeap.next_alloc]
  refine ⟨?_, ?_⟩
  · refine (clone43_ok R (by omega)).mono ?_
    rintro U h ⟨O, mi, f⟩
    have D2 := D1.up f fun _ h => h.elim
    obtain ⟨V', hv', _, _, _, _, hVe'⟩ := D2.sleepRow c
    rw [← hVe] at hVe'
    subst hVe'
    have x := D2.at_
    have p2' : h.get (g.next + 1) = some (.cells (chanE.f c) .ex) := (f.eq _ (by omega) id).trans p2
    simp (disch := omega) only [sh, sh2, shs, shc, shi, dec, x, p2', hx, hv']
    exact mid U h O mi f
  · refine (clone43_ok R (by omega)).mono ?_
    rintro U h ⟨O, mi, f⟩
    exact mid U h O mi f
end Go.Proofs.Ytgncgokjbakdmaa
