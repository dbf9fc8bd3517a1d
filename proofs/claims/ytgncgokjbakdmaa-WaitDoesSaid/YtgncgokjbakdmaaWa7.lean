/-
  waitq: Wake.
-/
import Derived.Test.YtgncgokjbakdmaaWa6
set_option linter.all false
namespace Go.Proofs.Ytgncgokjbakdmaa
open Go.ChangeShapes Go.WideShapes Go.ChangeAt Go.RowKit Go.Lm
set_option linter.unusedSimpArgs false
variable {g g' : LHeap} {q n ms mo nS : Nat} {col : Nat → Option Tag} {on : Int → Option (List Chan)} {sl : Chan → List Int} {mpS : Chan → Option LV} {mpO : Int → Option LV}
set_option maxRecDepth 10000 in
theorem bs24_1 (h : LHeap) (t : Int) : buildSliceL Try.prog 24 1 [(0, i t)] h = some (.slice h.next 0 1 (.ex 1), h.alloc (.cells [i t] .ex)) := nr (by kernel_rfl)
theorem WQ.few (D : WQ g q col on sl n) (c : Chan) : (sl c).length ≤ 64 := by
  obtain ⟨_, _, _, _, _, D⟩ := D; exact D.few c
theorem WQ.nod (D : WQ g q col on sl n) (c : Chan) : (sl c).Nodup := by
  obtain ⟨_, _, _, _, _, D⟩ := D; exact D.nod c
theorem WQ.lt (D : WQ g q col on sl n) (a : Nat) (h : col a ≠ none) : a < g.next := by
  obtain ⟨_, _, _, _, _, D⟩ := D; exact D.lt a h
theorem WQ.mem (D : WQ g q col on sl n) (c t) (h : t ∈ sl c) : ∃ l, on t = some l ∧ c ∈ l := by
  obtain ⟨_, _, _, _, _, D⟩ := D; exact D.mem c t h
set_option maxRecDepth 4000 in
theorem wake_ok (D : WQ g q col on sl n) (c : Chan) (k0 : Int) : Ok Try.prog 15 [.ptr q 0, .agg (chanE.f c), i k0] g fun v h => Vec intE g.next h v ((sl c).take k0.toNat) ∧
    ∃ col', WQ h q col' (fun t => if t ∈ (sl c).take k0.toNat then none else on t) (fun c' => (sl c').filter fun t => !decide (t ∈ (sl c).take k0.toNat)) (n - ((sl c).take k0.toNat).length) ∧ FrQ g col h col' ∧ ∀ a, v.obj = some a → col' a = none := by
  refine ok15 fun wf lt => ?_
  have f1 : Fr noF g (g.alloc (.cells (chanE.f c) .ex)) := Fr.alloc _ _
  have hn : newL (.agg (chanE.f c)) g = some (.ptr g.next 0, g.alloc (.cells (chanE.f c) .ex)) := new_agg _ _ (chanE.cell c)
  have hx : cellO (some 3) 0 (some (.cells (chanE.f c) .ex)) = some (.agg (chanE.f c)) := by
    rw [cells_o _ _ _ _ (by rw [chanE.len]; decide), List.drop_zero, List.take_of_length_le (by rw [chanE.len]; decide)]
  have D1 := D.up f1 fun _ h => h.elim
  simp (disch := omega) only [F15, J15_0, J15_1, sh, sh2, shs, shc, shi, dec, hn, hx]
  refine (sleepers_ok D1 c).mono ?_
  rintro U h0 ⟨O, mi, f2⟩
  have hl := O.row.len ty24
  have hm := D.few c
  have hlt := D1.lt
  have hnod := D.nod c
  have hmem := D.mem c
  generalize hml : sl c = m at *
  simp (disch := omega) only [J15_3, sh, sh2, shs, shc, shi, dec, b_len, hl]
  have D2 := D1.up f2 fun _ h => h.elim
  have e0 : (fun c' => (sl c').filter fun t => !decide (t ∈ m.take 0)) = sl := by
    funext c'
    rw [List.filter_eq_self.2]
    simp
  refine loop_n (fun n' s h => ∃ (k : Nat) (V : LV) (col' : Nat → Option Tag), s = (V, i (k : Int)) ∧ k + n' = m.length ∧ k ≤ k0.toNat ∧ Vec intE g.next h V (m.take k) ∧ Row h U intE m ∧
      WQ h q col' (fun t => if t ∈ m.take k then none else on t) (fun c' => (sl c').filter fun t => !decide (t ∈ m.take k)) (n - k) ∧ FrQ g col h col' ∧ (∀ a, U.obj = some a → col' a = none ∧ a < h.next ∧ V.obj ≠ some a) ∧ ∀ a, V.obj = some a → col' a = none) (n := m.length)
    ⟨0, .nils, col, rfl, by omega, by omega, Vec.nils _ _, O.row, by rw [e0]; simpa using D2, FrQ.of (f1.trans f2), fun a ha => ⟨?_, (O.lo a ha).2, by simp [LV.obj]⟩, fun a ha => by cases ha⟩ ?_
  · refine Classical.byContradiction fun hc => ?_
    have := hlt a hc
    have := (O.lo a ha).1
    omega
  rintro n' s h ⟨k, V, col', rfl, hk, hk0, OV, RU, D', fq, hU, hV⟩
  have hlV := OV.row.len ty24
  have lk : (m.take k).length = k := by rw [List.length_take]; omega
  rw [lk] at hlV
  have fin : m.take k0.toNat = m.take k → (Vec intE g.next h V (m.take k0.toNat) ∧
    ∃ col', WQ h q col' (fun t => if t ∈ m.take k0.toNat then none else on t) (fun c' => (sl c').filter fun t => !decide (t ∈ m.take k0.toNat)) (n - (m.take k0.toNat).length) ∧ FrQ g col h col' ∧ ∀ a, V.obj = some a → col' a = none) := by
    intro e
    rw [e, lk]
    exact ⟨OV, col', D', fq, hV⟩
  cases n' with
  | zero =>
    simp (disch := omega) only [L15_4, J15_2, i, sh, sh2, shs, shc, shi, dec]
    exact fin (by rw [List.take_of_length_le (by omega), List.take_of_length_le (by omega)])
  | succ n' =>
    obtain ⟨t, ht, hd⟩ := drop_at (l := m) (k := k) (by omega)
    have hix := RU.ix (k := .i64) (i := k) (by omega)
    have hld := RU.ld1 ht rfl rfl
    have e1 : intE.e = 1 := rfl
    rw [e1] at hix
    by_cases hge : k0 ≤ k
    · simp (disch := omega) only [L15_4, J15_2, i, sh, sh2, shs, shc, shi, dec, hix, hld, b_len, hlV]
      exact fin (by rw [show k0.toNat = k by omega])
    simp (disch := omega) only [L15_4, J15_2, i, sh, sh2, shs, shc, shi, dec, hix, hld, b_len, hlV]
    refine call_w (cancel_ok D' t) ?_
    rintro _ h2 ⟨rfl, col2, D2', fq2⟩ le2 wf2 _
    have hsome : on t ≠ none := by
      obtain ⟨l, hl, _⟩ := hmem t (List.mem_of_getElem? ht); rw [hl]; simp
    have hnt : t ∉ m.take k := by
      intro hin
      have := hnod
      rw [← List.take_append_drop k m, hd, List.nodup_append] at this
      exact this.2.2 t hin t (by simp) rfl
    have kV : ∀ a, V.obj = some a → h2.get a = h.get a ∧ col2 a = none := fun a ha => fq2.eq a (OV.lo a ha).2 (hV a ha)
    have OV2 : Vec intE g.next h2 V (m.take k) := ⟨OV.row.fr fun a ha => (kV a ha).1, OV.grow.fr fun a ha => (kV a ha).1, fun a ha => ⟨(OV.lo a ha).1, Nat.lt_of_lt_of_le (OV.lo a ha).2 le2⟩⟩
    obtain ⟨V', h4, e, O4, f4, n4, _⟩ := (OV2.up (Fr.alloc h2 (.cells [i t] .ex)) fun _ _ => id).app' (bytes := 8) (U := .slice h2.next 0 1 (.ex 1)) (m := [t]) (Row.of (get_alloc_eq _ _) rfl rfl (Nat.le_refl 1)) (by simp only [List.length_singleton]; omega) (by have := f1.le; have := f2.le; have := fq.le; rw [LHeap.next_alloc]; omega)
    have e : appendL 1 8 V (.slice h2.next 0 1 (.ex 1)) (h2.alloc (.cells [i t] .ex)) = some (V', h4) := e
    have bs := bs24_1 h2 t
    have ap := ap24 (V := V) (U := .slice h2.next 0 1 (.ex 1)) rfl (h2.alloc (.cells [i t] .ex))
    simp (disch := omega) only [i, sh, sh2, shs, shc, shi, dec, bs, ap, e]
    have ff : Fr (fun a => V.obj = some a) h2 h4 := ((Fr.alloc h2 _).mono fun _ _ h => h.elim).trans f4
    refine ⟨n', by omega, k + 1, V', col2, rfl, by omega, by omega, ?_, ?_, ?_, ?_, ?_, ?_⟩
    · rw [List.take_add_one, ht]; exact O4
    · exact RU.fr fun a ha => (ff.eq a (Nat.lt_of_lt_of_le (hU a ha).2.1 le2) (hU a ha).2.2).trans (fq2.eq a (hU a ha).2.1 (hU a ha).1).1
    · have D4 := D2'.up ff fun a ha => (kV a ha).2
      have ea : (fun t' => if t' ∈ m.take (k + 1) then none else on t') = upd (fun t' => if t' ∈ m.take k then none else on t') t none := by
        funext t'
        rw [List.take_add_one, ht]
        by_cases h : t' = t
        · subst h; rw [upd_at]; simp
        · rw [upd_ne _ _ h]; simp [h]
      have eb : (fun c' => (sl c').filter fun t' => !decide (t' ∈ m.take (k + 1))) = fun c' => ((sl c').filter fun t' => !decide (t' ∈ m.take k)).filter fun t' => !t' == t := by
        funext c'
        rw [List.filter_filter, List.take_add_one, ht]
        congr 1
        funext t'
        by_cases h : t' = t <;> simp [h]
      rw [ea, eb]
      rw [if_neg hnt, if_pos (by cases h : on t with | none => exact absurd h hsome | some _ => rfl), Nat.sub_sub] at D4
      exact D4
    · exact ⟨Nat.le_trans fq.le (Nat.le_trans le2 ff.le), fun a ha hc => by
        have h1 := fq.eq a ha hc
        have h2' := fq2.eq a (Nat.lt_of_lt_of_le ha fq.le) h1.2
        exact ⟨(ff.eq a (Nat.lt_of_lt_of_le ha (Nat.le_trans fq.le le2)) fun hv => by have := (OV.lo a hv).1; omega).trans (h2'.1.trans h1.1), h2'.2⟩⟩
    · intro a ha
      have h1 := hU a ha
      refine ⟨(fq2.eq a h1.2.1 h1.1).2, Nat.lt_of_lt_of_le h1.2.1 (Nat.le_trans le2 ff.le), fun hv => ?_⟩
      rcases n4 a hv with h | h
      · exact h1.2.2 h
      · rw [LHeap.next_alloc] at h; omega
    · intro a ha
      rcases n4 a ha with h | h
      · exact (kV a h).2
      · refine Classical.byContradiction fun hc => ?_
        have := D2'.lt a hc
        rw [LHeap.next_alloc] at h
        omega
end Go.Proofs.Ytgncgokjbakdmaa
