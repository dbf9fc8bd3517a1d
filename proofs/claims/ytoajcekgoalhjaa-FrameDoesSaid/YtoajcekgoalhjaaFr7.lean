/-
  frame, plain: Alloc, Incr, Decr.
-/
import Derived.Test.YtoajcekgoalhjaaFr6
set_option linter.all false
namespace Go.Proofs.Ytoajcekgoalhjaa
open Go.ChangeShapes Go.WideShapes Go.ChangeAt Go.RowKit Go.Lm
set_option linter.unusedSimpArgs false
set_option maxRecDepth 10000
/-- A hart's list. -/
def FSt.listOf (st : FSt) (k : Nat) : List Int := (st.lists[k]?).getD []
def FSt.ix (st : FSt) (y : Int) : Nat := (y - st.first).toNat
/-- The last of a hart's list is taken. -/
def popS (st : FSt) (k : Nat) : FSt := { st with lists := st.lists.set k (st.listOf k).dropLast, counts := st.counts.set (st.ix ((st.listOf k).getLastD 0)) 1 }
def readyS (st : FSt) (k : Nat) : FSt := if st.listOf k = [] then fillS st k else st
def allocS (st : FSt) (k : Int) : FSt × Int × Int :=
  if st.isH k then if st.freeN = 0 then (st, 0, 2) else (popS (readyS st k.toNat) k.toNat, ((readyS st k.toNat).listOf k.toNat).getLastD 0, 0) else (st, 0, 1)
def setC (st : FSt) (y c : Int) : FSt := { st with counts := st.counts.set (st.ix y) c }
def incrS (st : FSt) (y : Int) : FSt × Int := if st.cnt y = 0 then (st, 60) else if 1048576 ≤ st.cnt y then (st, 2) else (setC st y (st.cnt y + 1), 0)
def backS (st : FSt) (k : Nat) (y : Int) : FSt :=
  if 16 < (st.listOf k ++ [y]).length then { st with bs := zeroF st.bs y, common := sorted (st.common ++ (st.listOf k ++ [y]).take 8), lists := st.lists.set k ((st.listOf k ++ [y]).drop 8) }
  else { st with bs := zeroF st.bs y, lists := st.lists.set k (st.listOf k ++ [y]) }
def decrS (st : FSt) (k y : Int) : FSt × Bool × Int :=
  if st.isH k then if st.cnt y = 0 then (st, false, 60) else if 0 < st.cnt y - 1 then (setC st y (st.cnt y - 1), false, 0) else (backS (setC st y 0) k.toNat y, true, 0) else (st, false, 1)
theorem ix_of {st : FSt} {y : Int} (h : st.inR y) : st.ix y < st.counts.length ∧ ((st.ix y : Nat) : Int) = y - st.first ∧ st.counts[st.ix y]? = some (st.cnt y) := by
  have h' := h
  unfold FSt.inR at h
  have h2 : st.ix y < st.counts.length := by unfold FSt.ix; omega
  refine ⟨h2, by unfold FSt.ix; omega, ?_⟩
  unfold FSt.cnt
  rw [if_pos h']
  show st.counts[st.ix y]? = some ((st.counts[st.ix y]?).getD 0)
  rw [List.getElem?_eq_getElem h2]; rfl
theorem cnt_pos {st : FSt} {y : Int} (h : st.cnt y ≠ 0) : st.inR y := by
  unfold FSt.cnt at h
  by_cases h2 : st.inR y
  · exact h2
  · rw [if_neg h2] at h; exact absurd rfl h
theorem setC_inR (st : FSt) (y c z : Int) : (setC st y c).inR z ↔ st.inR z := by simp [setC, FSt.inR]
theorem setC_cnt {st : FSt} {y : Int} (h : st.inR y) (c z : Int) : (setC st y c).cnt z = if z = y then c else st.cnt z := by
  obtain ⟨h1, h2, _⟩ := ix_of h
  by_cases hz : st.inR z
  · obtain ⟨k1, k2, k3⟩ := ix_of hz
    unfold FSt.cnt
    rw [if_pos ((setC_inR _ _ _ _).2 hz), if_pos hz]
    show ((st.counts.set (st.ix y) c)[st.ix z]?).getD 0 = if z = y then c else (st.counts[st.ix z]?).getD 0
    by_cases e : z = y
    · subst e; rw [List.getElem?_set_self h1, if_pos rfl]; rfl
    · rw [List.getElem?_set_ne (by omega), if_neg e]
  · have hne : z ≠ y := fun e => hz (e ▸ h)
    unfold FSt.cnt
    rw [if_neg fun k => hz ((setC_inR _ _ _ _).1 k), if_neg hz, if_neg hne]
theorem FWf.cnt_le {st : FSt} (w : FWf st) (y : Int) : 0 ≤ st.cnt y ∧ st.cnt y ≤ 1048576 := by
  by_cases h : st.inR y
  · obtain ⟨_, _, k⟩ := ix_of h
    exact w.cr _ (List.mem_of_getElem? k)
  · unfold FSt.cnt; rw [if_neg h]; omega
theorem setC_cr {st : FSt} (w : FWf st) {y c : Int} (hc : 0 ≤ c ∧ c ≤ 1048576) : ∀ c' ∈ (setC st y c).counts, 0 ≤ c' ∧ c' ≤ 1048576 := fun c' h => by
  rcases List.mem_or_eq_of_mem_set h with h | rfl
  · exact w.cr c' h
  · exact hc
/-- A count that stays above 0. -/
theorem setC_wf {st : FSt} (w : FWf st) {y c : Int} (hy : st.cnt y ≠ 0) (hc : 0 < c ∧ c ≤ 1048576) : FWf (setC st y c) := by
  have hr := cnt_pos hy
  have hp := w.cnt_le y
  obtain ⟨h1, _, h3⟩ := ix_of hr
  refine ⟨w.h1, w.h8, w.l8, w.le, w.f0, ?_, w.b1, w.b2, w.b3, ?_, setC_cr w ⟨by omega, hc.2⟩, fun z => ?_, ?_, w.so, w.z⟩
  · have := w.n1; simpa [setC] using this
  · have := w.fit; simpa [setC] using this
  · have := w.I1 z
    rw [show (setC st y c).all = st.all from rfl, this, setC_cnt hr]
    by_cases e : z = y
    · subst e; rw [if_neg (by omega), if_neg (by simp; omega)]
    · simp only [setC_inR, if_neg e]
  · have := used_set c h3
    have i2 := w.I2
    rw [if_pos (by omega), if_pos hc.1] at this
    show st.freeN + usedL (st.counts.set (st.ix y) c) = (st.counts.set (st.ix y) c).length
    rw [List.length_set]; omega
theorem incr_wf {st : FSt} (w : FWf st) (y : Int) : FWf (incrS st y).1 := by
  unfold incrS
  split
  · exact w
  · split
    · exact w
    · rename_i h1 h2
      have := w.cnt_le y
      exact setC_wf w h1 ⟨by omega, by omega⟩
theorem dropLast_count {l : List Int} (h : l ≠ []) (z : Int) : l.dropLast.count z + (if z = l.getLastD 0 then 1 else 0) = l.count z := by
  have e : l = l.dropLast ++ [l.getLastD 0] := by
    rw [List.getLastD_eq_getLast?, List.getLast?_eq_some_getLast h]
    exact (List.dropLast_concat_getLast h).symm
  conv => rhs; rw [e]
  rw [List.count_append]
  generalize l.getLastD 0 = y
  by_cases hz : z = y
  · subst hz; simp
  · rw [if_neg hz, List.count_eq_zero_of_not_mem (l := [y]) (by simpa using hz)]
theorem last_mem {l : List Int} (h : l ≠ []) : l.getLastD 0 ∈ l := by
  rw [List.getLastD_eq_getLast?, List.getLast?_eq_some_getLast h]
  exact List.getLast_mem h
theorem pop_wf {st : FSt} (w : FWf st) {k : Nat} (hk : k < st.harts) (hl : st.listOf k ≠ []) : FWf (popS st k) ∧ st.inR ((st.listOf k).getLastD 0) ∧ st.cnt ((st.listOf k).getLastD 0) = 0 ∧ (st.listOf k).getLastD 0 ∈ st.all := by
  have h8 := w.l8
  have hh := w.h8
  have hs : st.lists[k]? = some (st.listOf k) := getD_some (by omega)
  have hm : (st.listOf k).getLastD 0 ∈ st.all := by
    unfold FSt.all
    exact List.mem_append_left _ (List.mem_flatten.2 ⟨_, List.mem_of_getElem? hs, last_mem hl⟩)
  obtain ⟨hr, h0⟩ := w.mem hm
  refine ⟨?_, hr, h0, hm⟩
  have hdl := fun z => dropLast_count hl z
  have hdlen : (st.listOf k).dropLast.length + 1 = (st.listOf k).length := by
    have := List.length_pos_iff.2 hl
    rw [List.length_dropLast]; omega
  generalize hy : (st.listOf k).getLastD 0 = y at *
  obtain ⟨h1, _, h3⟩ := ix_of hr
  rw [h0] at h3
  have ep : popS st k = { setC st y 1 with lists := st.lists.set k (st.listOf k).dropLast } := by unfold popS setC; rw [hy]
  have hcnt : ∀ z, (popS st k).all.count z + (if z = y then 1 else 0) = st.all.count z := fun z => by
    have c1 := count_set (y := z) (st.listOf k).dropLast hs
    have := hdl z
    unfold FSt.all
    rw [ep]
    simp only [setC, List.count_append]
    omega
  refine ⟨w.h1, w.h8, ?_, ?_, w.f0, ?_, w.b1, w.b2, w.b3, ?_, ?_, fun z => ?_, ?_, w.so, fun z hz => ?_⟩
  · rw [ep]; simpa using h8
  · intro j hj hj8
    rw [ep]
    show (st.lists.set k _)[j]? = some []
    have hj : st.harts ≤ j := hj
    rw [List.getElem?_set_ne (by omega)]
    exact w.le j hj hj8
  · have := w.n1; rw [ep]; simpa [setC] using this
  · have := w.fit; rw [ep]; simpa [setC] using this
  · rw [ep]; exact setC_cr w ⟨by omega, by omega⟩
  · have a := hcnt z
    have b := w.I1 z
    have c : (popS st k).inR z ∧ (popS st k).cnt z = 0 ↔ st.inR z ∧ (if z = y then (1 : Int) else st.cnt z) = 0 := by
      rw [← setC_cnt hr, ← setC_inR st y 1, ep]
      exact Iff.rfl
    simp only [c]
    by_cases e : z = y
    · subst e
      rw [if_pos rfl, b, if_pos ⟨hr, h0⟩] at a
      rw [if_neg (by simp)]; omega
    · rw [if_neg e] at a ⊢
      omega
  · have c1 := len_set (st.listOf k).dropLast hs
    have c2 := used_set 1 h3
    have i2 := w.I2
    rw [if_neg (by omega), if_pos (by omega)] at c2
    have e1 : (popS st k).freeN + 1 = st.freeN := by
      unfold FSt.freeN
      rw [ep]
      simp only [setC]
      omega
    have e2 : usedL (popS st k).counts = usedL st.counts + 1 := by rw [ep]; show usedL (st.counts.set (st.ix y) 1) = _; omega
    have e3 : (popS st k).counts.length = st.counts.length := by rw [ep]; simp [setC]
    omega
  · refine w.z z ?_
    rw [← List.count_pos_iff] at *
    have := hcnt z
    omega
theorem ready_wf {st : FSt} (w : FWf st) {k : Nat} (hk : k < st.harts) (hf : st.freeN ≠ 0) : FWf (readyS st k) ∧ (readyS st k).listOf k ≠ [] := by
  have h8 := w.l8
  have hh := w.h8
  have hs : st.lists[k]? = some (st.listOf k) := getD_some (by omega)
  unfold readyS
  by_cases h : st.listOf k = []
  · rw [if_pos h]
    rw [h] at hs
    refine ⟨fill_wf w hk hs hf, ?_⟩
    obtain ⟨_, _, _, _, _, l, e, hne⟩ := fill_said w hk hs hf
    unfold FSt.listOf
    rw [e]; exact hne
  · rw [if_neg h]; exact ⟨w, h⟩
theorem alloc_wf {st : FSt} (w : FWf st) (k : Int) : FWf (allocS st k).1 := by
  unfold allocS
  split
  · split
    · exact w
    · rename_i h1 h2
      unfold FSt.isH at h1
      obtain ⟨w2, h3⟩ := ready_wf w (k := k.toNat) (by omega) h2
      have hh : (readyS st k.toNat).harts = st.harts := by unfold readyS; split <;> rfl
      exact (pop_wf w2 (by omega) h3).1
  · exact w
theorem zeroF_frames {bs : List Int} (y : Int) : (zeroF bs y).length = bs.length := zeroF_len bs y
theorem sorted_pw (l : List Int) : (sorted l).Pairwise fun x y => decide (x ≤ y) = true :=
  List.pairwise_mergeSort (le := fun x y => decide (x ≤ y)) (fun a b c h1 h2 => by simp at *; omega) (fun a b => by simp; omega) l
theorem back_wf {st : FSt} (w : FWf st) {k : Nat} (hk : k < st.harts) {y : Int} (hy : st.cnt y = 1) : FWf (backS (setC st y 0) k y) := by
  have h8 := w.l8
  have hh := w.h8
  have hr := cnt_pos (st := st) (y := y) (by omega)
  obtain ⟨h1, _, h3⟩ := ix_of hr
  rw [hy] at h3
  have hfi := w.frameIn hr
  have hs : st.lists[k]? = some (st.listOf k) := getD_some (by omega)
  have hlo : (setC st y 0).listOf k = st.listOf k := rfl
  have key : ∀ (ls : List (List Int)) (cm : List Int), (∀ z, ls.flatten.count z + cm.count z = st.lists.flatten.count z + st.common.count z + (if z = y then 1 else 0)) → ls.flatten.length + cm.length = st.lists.flatten.length + st.common.length + 1 → ls.length = 8 → (∀ j : Nat, st.harts ≤ j → j < 8 → ls[j]? = some []) → cm.Pairwise (fun x y => decide (x ≤ y) = true) → FWf { setC st y 0 with bs := zeroF st.bs y, common := cm, lists := ls } := by
    intro ls cm k1 k2 k3 k4 k5
    refine ⟨w.h1, w.h8, k3, k4, w.f0, ?_, ?_, ?_, ?_, ?_, setC_cr w ⟨by omega, by omega⟩, fun z => ?_, ?_, k5, fun z hz => ?_⟩
    · have := w.n1; simpa [setC] using this
    · show (zeroF st.bs y).length ≤ _; rw [zeroF_len]; exact w.b1
    · show _ ≤ (zeroF st.bs y).length; rw [zeroF_len]; exact w.b2
    · show (zeroF st.bs y).length % 256 = 0; rw [zeroF_len]; exact w.b3
    · have := w.fit
      show _ ≤ (((zeroF st.bs y).length / 256 : Nat) : Int)
      rw [zeroF_len]
      simpa [setC] using this
    · have a := k1 z
      have b := w.I1 z
      have c : (({ setC st y 0 with bs := zeroF st.bs y, common := cm, lists := ls } : FSt).inR z ∧ ({ setC st y 0 with bs := zeroF st.bs y, common := cm, lists := ls } : FSt).cnt z = 0) ↔ st.inR z ∧ (if z = y then (0 : Int) else st.cnt z) = 0 := by
        rw [← setC_cnt hr, ← setC_inR st y 0]
        exact Iff.rfl
      simp only [c]
      simp only [FSt.all, List.count_append] at b ⊢
      by_cases e : z = y
      · subst e
        rw [if_pos rfl] at a ⊢
        rw [if_neg (by omega)] at b
        rw [if_pos ⟨hr, rfl⟩]; omega
      · rw [if_neg e] at a ⊢
        omega
    · have c2 := used_set 0 h3
      have i2 := w.I2
      rw [if_pos (by omega), if_neg (by omega)] at c2
      show cm.length + ls.flatten.length + usedL (st.counts.set (st.ix y) 0) = (st.counts.set (st.ix y) 0).length
      rw [List.length_set]
      unfold FSt.freeN at i2
      omega
    · show frameB (zeroF st.bs y) z = zerosB 256
      by_cases e : z = y
      · subst e; exact frameB_zeroed hfi
      · have hz' : z ∈ st.all := by
          rw [← List.count_pos_iff] at *
          have a := k1 z
          rw [if_neg e] at a
          simp only [FSt.all, List.count_append] at hz ⊢
          omega
        rw [frameB_zero hfi (w.frameIn (w.mem hz').1) e]
        exact w.z z hz'
  have cy : ∀ z, [y].count z = if z = y then 1 else 0 := fun z => by
    by_cases e : z = y
    · subst e; simp
    · rw [if_neg e, List.count_eq_zero_of_not_mem (l := [y]) (by simpa using e)]
  unfold backS
  rw [hlo]
  by_cases hb : 16 < (st.listOf k ++ [y]).length
  · rw [if_pos hb]
    refine key _ _ (fun z => ?_) ?_ (by simpa [setC] using h8) (fun j hj hj8 => ?_) (sorted_pw _)
    · have c1 := count_set (y := z) ((st.listOf k ++ [y]).drop 8) hs
      have c2 := count_td z (st.listOf k ++ [y]) 8
      have c3 := (sorted_perm (st.common ++ (st.listOf k ++ [y]).take 8)).count_eq z
      rw [List.count_append] at c3
      rw [List.count_append (l₁ := st.listOf k), cy] at c2
      show ((st.lists.set k _).flatten.count z + (sorted (st.common ++ _)).count z) = _
      omega
    · have c1 := len_set ((st.listOf k ++ [y]).drop 8) hs
      have c3 := sorted_len (st.common ++ (st.listOf k ++ [y]).take 8)
      rw [List.length_append, List.length_take] at c3
      rw [List.length_drop] at c1
      rw [List.length_append, List.length_singleton] at c1 c3 hb
      show (st.lists.set k _).flatten.length + (sorted (st.common ++ _)).length = _
      omega
    · show (st.lists.set k _)[j]? = some []
      rw [List.getElem?_set_ne (by omega)]
      exact w.le j hj hj8
  · rw [if_neg hb]
    refine key _ _ (fun z => ?_) ?_ (by simpa [setC] using h8) (fun j hj hj8 => ?_) w.so
    · have c1 := count_set (y := z) (st.listOf k ++ [y]) hs
      rw [List.count_append, cy] at c1
      show ((st.lists.set k _).flatten.count z + st.common.count z) = _
      omega
    · have c1 := len_set (st.listOf k ++ [y]) hs
      rw [List.length_append, List.length_singleton] at c1
      show (st.lists.set k _).flatten.length + st.common.length = _
      omega
    · show (st.lists.set k _)[j]? = some []
      rw [List.getElem?_set_ne (by omega)]
      exact w.le j hj hj8
theorem decr_wf {st : FSt} (w : FWf st) (k y : Int) : FWf (decrS st k y).1 := by
  unfold decrS
  split
  · split
    · exact w
    · rename_i h1 h2
      have := w.cnt_le y
      unfold FSt.isH at h1
      split
      · exact setC_wf w h2 ⟨by omega, by omega⟩
      · exact back_wf w (by omega) (by omega)
  · exact w
end Go.Proofs.Ytoajcekgoalhjaa
