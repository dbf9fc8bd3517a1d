/-
  waitq: Cancel.
-/
import Derived.Test.YtgncgokjbakdmaaWa5
set_option linter.all false
namespace Go.Proofs.Ytgncgokjbakdmaa
open Go.ChangeShapes Go.WideShapes Go.ChangeAt Go.RowKit Go.Lm
set_option linter.unusedSimpArgs false
variable {g g' : LHeap} {q n ms mo nS : Nat} {col : Nat → Option Tag} {on : Int → Option (List Chan)} {sl : Chan → List Int} {mpS : Chan → Option LV} {mpO : Int → Option LV}
theorem WQd.onRow (D : WQd g q col on sl n ms mo mpS mpO nS) (t : Int) : ∃ V, lookupL Try.prog 80 (.map mo) (i t) true g = some (.tuple [V, .bool (on t).isSome]) ∧ lookupL Try.prog 80 (.map mo) (i t) false g = some V ∧ Row g V chanE ((on t).getD []) ∧ Mine g V ∧ (∀ a, V.obj = some a → col a = some (.o t)) ∧ V = (mpO t).getD .nils ∧ ((mpO t).isSome = (on t).isSome) ∧ ((on t).getD []).length ≤ 16 := by
  have h := D.mapO.lookup intK ty80 zr30 t true
  have h' := D.mapO.lookup intK ty80 zr30 t false
  rcases D.ons t with ⟨h1, h2⟩ | ⟨V, l, a, h1, h2, h3, h4, h5, h6, h7⟩
  · rw [h1] at h h'
    rw [h2]
    exact ⟨.nils, h, h', Row.nils _ _, trivial, (fun a ha => by cases ha), by rw [h1]; rfl, by rw [h1]; rfl, by simp⟩
  · rw [h1] at h h'
    have := D.short t l h2
    rw [h2]
    exact ⟨V, h, h', h6, h7, (fun b hb => by rw [h4] at hb; cases hb; exact h5), by rw [h1]; rfl, by rw [h1]; rfl, this⟩
theorem chan_o (a b c : Int) : cellO (some 3) 0 (some (.cells [i a, i b, i c] .ex)) = some (.agg [i a, i b, i c]) := by
  rw [cells_o _ _ _ _ (by simp)]
  rfl
set_option maxRecDepth 4000 in
theorem cancel_ok (D : WQ g q col on sl n) (tid : Int) : Ok Try.prog 26 [.ptr q 0, i tid] g fun v h => v = .bool (on tid).isSome ∧ ∃ col', WQ h q col' (upd on tid none) (fun c => (sl c).filter fun t => !(t == tid)) (if (on tid).isSome then n - 1 else n) ∧ FrQ g col h col' := by
  refine ok26 fun wf lt => ?_
  simp (disch := omega) only [F26, J26_0, sh]
  refine (made_ok D).mono ?_
  rintro _ _ ⟨rfl, rfl⟩
  obtain ⟨ms, mo, mpS, mpO, nS, D⟩ := D
  have x := D.at_
  obtain ⟨V, hv, _, R, _, _, hVe, hio, hle⟩ := D.onRow tid
  have hl := R.len ty30
  simp (disch := omega) only [J26_1, J26_2, J26_4, sh, sh2, shs, shc, shi, dec, x, hv, b_len, hl]
  generalize hll : (on tid).getD [] = l at *
  refine loop_n (fun n' s h => ∃ (k : Nat) (col' : Nat → Option Tag) (sl' : Chan → List Int) (mpS' : Chan → Option LV) (nS' : Nat), s = i (k : Int) ∧ k + n' = l.length ∧ WQd h q col' on sl' n ms mo mpS' mpO nS' ∧ FrQ _ col h col' ∧ ∀ c, sl' c = if c ∈ l.take k then (sl c).filter (fun t => !(t == tid)) else sl c) (n := l.length)
    ⟨0, col, sl, mpS, nS, rfl, by omega, D, FrQ.of (Fr.refl _ _), fun c => by simp⟩ ?_
  rintro n' s h ⟨k, col', sl', mpS', nS', rfl, hk, D', fq, hs⟩
  have x := D'.at_
  cases n' with
  | zero =>
    rw [List.take_of_length_le (by omega)] at hs
    have hs' : sl' = fun c => (sl c).filter fun t => !(t == tid) := by
      funext c
      rw [hs c]
      by_cases hc : c ∈ l
      · rw [if_pos hc]
      · rw [if_neg hc, List.filter_eq_self.2]
        intro t ht
        obtain ⟨l', h1, h2⟩ := D.mem c t ht
        have : t ≠ tid := fun e => by
          subst e
          rw [h1] at hll
          exact hc (hll ▸ h2)
        simpa using this
    obtain ⟨H, e, hm, fm⟩ := D'.mapO.del intK ty80 tid [3]
    have e : builtinL Try.prog .delete [80, 3] [.map mo, .int .i64 tid] h = some (undefL, H) := e
    obtain ⟨D2, fq2⟩ := D'.delO (t := tid) fm hm (by split <;> have := D'.most <;> omega) (fun c ht => by rw [hs'] at ht; simp at ht)
    simp (disch := omega) only [L26_5, J26_3, i, sh, sh2, shs, shc, shi, dec, x, e]
    refine ⟨col', ⟨ms, mo, mpS', upd mpO tid none, nS', ?_⟩, fq.trans fq2⟩
    rw [hs'] at D2
    have : (if (on tid).isSome = true then n - 1 else n) = (match mpO tid with | some _ => n - 1 | none => n) := by
      rw [← hio]; cases mpO tid <;> rfl
    rw [this]
    exact D2
  | succ n' =>
    obtain ⟨V', _, _, R', _, _, hVe', _, _⟩ := D'.onRow tid
    rw [← hVe] at hVe'
    subst hVe'
    rw [hll] at R'
    obtain ⟨⟨c1, c2, c3⟩, hc, hd⟩ := drop_at (l := l) (k := k) (by omega)
    have hix := R'.ix (k := .i64) (i := k) (by omega)
    have hld := R'.ld hc
    have e3 : chanE.e = 3 := rfl
    rw [e3] at hix hld
    have hld : loadV (some 3) (V'.at 3 k) h = some (.agg [i c1, i c2, i c3]) := hld
    simp (disch := omega) only [L26_5, i, sh, sh2, shs, shc, shi, dec, hix, hld, chan_o]
    have f1 : Fr noF h (h.alloc (.cells [i c1, i c2, i c3] .ex)) := Fr.alloc _ _
    refine (leave_ok (D'.up f1 fun _ h => h.elim) tid (c1, c2, c3)).mono ?_
    rintro _ h2 ⟨rfl, col2, mpS2, nS2, D2, fq2⟩
    refine ⟨n', by omega, k + 1, col2, _, mpS2, nS2, rfl, by omega, D2, (fq.trans (FrQ.of f1)).trans fq2, fun c => ?_⟩
    rw [List.take_add_one, hc]
    by_cases e : c = (c1, c2, c3)
    · subst e
      rw [upd_at, if_pos (by simp), hs]
      split
      · rw [List.filter_filter]; simp
      · rfl
    · rw [upd_ne _ _ e, hs]
      simp [e]
end Go.Proofs.Ytgncgokjbakdmaa
