/-
  waitq's queue as a thing; how the law's ops stand.
-/
import Derived.Test.YtgncgokjbakdmaaWaC
set_option linter.all false
namespace Go.Proofs.Ytgncgokjbakdmaa
open Go.ChangeShapes Go.WideShapes Go.ChangeAt Go.RowKit Go.Lm
set_option linter.unusedSimpArgs false
set_option maxRecDepth 10000
section
variable {F : Nat → Prop} {g g' h h' : LHeap} {q n ms mo nS : Nat} {col : Nat → Option Tag} {on : Int → Option (List Chan)} {sl : Chan → List Int} {mpS : Chan → Option LV} {mpO : Int → Option LV} {Ts : List Thing}
theorem WQd.re (D : WQd g q col on sl n ms mo mpS mpO nS) (keep : ∀ a, col a ≠ none → g'.get a = g.get a) (lt : ∀ a, col a ≠ none → a < g'.next) : WQd g' q col on sl n ms mo mpS mpO nS := by
  have keep : ∀ {a t}, col a = some t → g'.get a = g.get a := fun {a t} h => keep a (by rw [h]; simp)
  refine ⟨(keep D.cq).trans D.at_, D.mapS.fr (keep D.cs), D.mapO.fr (keep D.co), D.cq, D.cs, D.co, fun c => ?_, fun t => ?_, lt, D.nod, D.mem, D.most, D.short⟩
  · rcases D.sls c with h | ⟨V, a, h1, h2, h3, h4, h5, h6, h7⟩
    · exact .inl h
    · have hk : ∀ b, V.obj = some b → g'.get b = g.get b := fun b hb => by rw [h3] at hb; cases hb; exact keep h4
      exact .inr ⟨V, a, h1, h2, h3, h4, h5.fr hk, h6.fr hk, h7.fr hk⟩
  · rcases D.ons t with h | ⟨V, l, a, h1, h2, h3, h4, h5, h6, h7⟩
    · exact .inl h
    · have hk : ∀ b, V.obj = some b → g'.get b = g.get b := fun b hb => by rw [h4] at hb; cases hb; exact keep h5
      exact .inr ⟨V, l, a, h1, h2, h3, h4, h5, h6.fr hk, h7.fr hk⟩
theorem WQ.re (D : WQ g q col on sl n) (keep : ∀ a, col a ≠ none → g'.get a = g.get a) (lt : ∀ a, col a ≠ none → a < g'.next) : WQ g' q col on sl n := by
  obtain ⟨ms, mo, mpS, mpO, nS, D⟩ := D
  exact ⟨ms, mo, mpS, mpO, nS, D.re keep lt⟩
/-- A queue, in objects of its own. -/
def Thing.wq (q : Nat) (S : Nat → Prop) (on : Int → Option (List Chan)) (sl : Chan → List Int) (n : Nat) : Thing :=
  ⟨S, fun h => ∃ (col : Nat → Option Tag) (m : Nat), (∀ a, S a ↔ col a ≠ none) ∧ WQ ⟨h.get, m⟩ q col on sl n, fun h h' e ⟨col, m, h1, h2⟩ => ⟨col, m, h1, h2.re (fun a ha => e a ((h1 a).2 ha)) h2.lt⟩⟩
theorem Sep.wq {S : Nat → Prop} (Sp : Lm.Sep F g h Ts) (k : Nat) (hk : Ts[k]? = some (Thing.wq q S on sl n)) : ∃ col, (∀ a, S a ↔ col a ≠ none) ∧ WQ h q col on sl n := by
  obtain ⟨col, m, h1, h2⟩ := Sp.at k hk
  exact ⟨col, h1, h2.re (fun _ _ => rfl) fun a ha => Sp.lt k hk ((h1 a).2 ha)⟩
theorem Sep.wqs {S : Nat → Prop} (Sp : Lm.Sep F g h Ts) (k : Nat) (hk : Ts[k]? = some (Thing.wq q S on sl n)) (h1 : ∀ a, S a ↔ col a ≠ none) {col' : Nat → Option Tag} {on' : Int → Option (List Chan)} {sl' : Chan → List Int} {n' : Nat}
    (D : WQ h' q col' on' sl' n') (f : FrQ h col h' col') : ∃ S', Lm.Sep F g h' (Ts.set k (Thing.wq q S' on' sl' n')) := by
  refine ⟨fun a => col' a ≠ none, Sp.put k hk _ ⟨f.le, fun a ha hS => (f.eq a ha (Classical.byContradiction fun h => hS ((h1 a).2 h))).1⟩ ⟨col', h'.next, fun a => Iff.rfl, D⟩ fun a ha => ⟨?_, D.lt a ha⟩⟩
  by_cases hc : col a = none
  · refine .inr (Nat.le_of_not_lt fun hlt => ?_)
    exact ha (f.eq a hlt hc).2
  · exact .inl ((h1 a).2 hc)
theorem Sep.wqnew (Sp : Lm.Sep F g h Ts) (D : WQ h' q col on sl n) (f : Fr noF h h') (nw : ∀ a, a < h.next → col a = none) : ∃ S', Lm.Sep F g h' (Ts ++ [Thing.wq q S' on sl n]) :=
  ⟨fun a => col a ≠ none, Sp.add _ f ⟨col, h'.next, fun a => Iff.rfl, D⟩ fun a ha => ⟨Nat.le_of_not_lt fun hlt => ha (nw a hlt), D.lt a ha⟩⟩
end
structure OpX where
  kind : Int
  tid : Int
  L : LV
  a : Chan
  b : Chan
  n : Int
def opE : Enc OpX := ⟨fun o => [i o.kind, i o.tid, if o.L.cell then o.L else .nils, i o.a.1, i o.a.2.1, i o.a.2.2, i o.b.1, i o.b.2.1, i o.b.2.2, i o.n], 10, fun _ => rfl, fun o v h => by
  simp only [List.mem_cons, List.not_mem_nil, or_false] at h
  rcases h with rfl | rfl | rfl | rfl | rfl | rfl | rfl | rfl | rfl | rfl <;> first | rfl | (split; assumption; rfl), by decide⟩
theorem ty53 : Try.prog.underlying 53 = some (.slice 56) := by kernel_rfl
theorem new_st10 (h : LHeap) (o : OpX) : ∃ N, newL (.agg [.int .i64 0, .int .i64 0, .nils, .int .i64 0, .int .i64 0, .int .i64 0, .int .i64 0, .int .i64 0, .int .i64 0, .int .i64 0]) h = some (.ptr h.next 0, N) ∧ storeV 10 (.ptr h.next 0) (.agg (opE.f o)) N = some (h.alloc (.cells (opE.f o) .ex)) := by
  refine ⟨_, new_agg _ _ (by simp [LV.cell]), ?_⟩
  have e := store_agg' (E := opE) h.next 0 o (h.alloc (.cells [.int .i64 0, .int .i64 0, .nils, .int .i64 0, .int .i64 0, .int .i64 0, .int .i64 0, .int .i64 0, .int .i64 0, .int .i64 0] .ex))
  have e7 : opE.e = 10 := rfl
  rw [e7] at e
  rw [e]
  simp only [storeCellsL, get_alloc_eq]
  rw [if_pos ⟨by decide, by rw [opE.len]; exact Nat.le_refl _, List.all_eq_true.2 fun v hv => opE.cell o v hv⟩, alloc_set']
  rfl
theorem op_c (o : OpX) (hL : o.L.cell = true) : cellO none 0 (some (.cells (opE.f o) .ex)) = some (i o.kind) ∧ cellO none 1 (some (.cells (opE.f o) .ex)) = some (i o.tid) ∧ cellO none 2 (some (.cells (opE.f o) .ex)) = some o.L ∧ cellO (some 3) 3 (some (.cells (opE.f o) .ex)) = some (.agg (chanE.f o.a)) ∧ cellO (some 3) 6 (some (.cells (opE.f o) .ex)) = some (.agg (chanE.f o.b)) ∧ cellO none 9 (some (.cells (opE.f o) .ex)) = some (i o.n) := by
  refine ⟨rfl, rfl, ?_, rfl, rfl, rfl⟩
  show some (if o.L.cell then o.L else .nils) = _
  rw [if_pos hL]
end Go.Proofs.Ytgncgokjbakdmaa
