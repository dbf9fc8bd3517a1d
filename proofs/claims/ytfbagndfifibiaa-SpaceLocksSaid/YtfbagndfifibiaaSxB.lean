/-
  frame, plain: Alloc, Incr, Decr.
-/
import Derived.Test.YtfbagndfifibiaaSxA
import Derived.Test.YtfbagndfifibiaaSaS
import Derived.Test.YtfbagndfifibiaaLm7x
set_option linter.all false
namespace Go.Proofs.Ytfbagndfifibiaa
open Go.ChangeShapes Go.WideShapes Go.ChangeAt Go.RowKit Go.Lm
set_option linter.unusedSimpArgs false
set_option maxRecDepth 10000
/-- A hart's list. -/
def FSt.listOf (st : FSt) (k : Nat) : List Int := (st.lists[k]?).getD []
def FSt.ix (st : FSt) (y : Int) : Nat := (y - st.first).toNat
/-- The last of a hart's list is taken. -/
def popS (st : FSt) (k : Nat) : FSt := { st with lists := st.lists.set k (st.listOf k).dropLast, counts := st.counts.set (st.ix ((st.listOf k).getLastD 0)) 1 }
def readyS (st : FSt) (k : Nat) : FSt := if st.listOf k = [] then fillS st k else st
def allocS (st : FSt) (k : Int) : FSt × Int × Int :=
  if st.isH k then if st.freeN = 0 then (st, 0, 2) else (popS (readyS st k.toNat) k.toNat, ((readyS st k.toNat).listOf k.toNat).getLastD 0, 0) else (st, 0, 1)
def setC (st : FSt) (y c : Int) : FSt := { st with counts := st.counts.set (st.ix y) c }
def incrS (st : FSt) (y : Int) : FSt × Int := if st.cnt y = 0 then (st, 60) else if 1048576 ≤ st.cnt y then (st, 2) else (setC st y (st.cnt y + 1), 0)
def backS (st : FSt) (k : Nat) (y : Int) : FSt :=
  if 16 < (st.listOf k ++ [y]).length then { st with bs := zeroF st.bs y, common := sorted (st.common ++ (st.listOf k ++ [y]).take 8), lists := st.lists.set k ((st.listOf k ++ [y]).drop 8) }
  else { st with bs := zeroF st.bs y, lists := st.lists.set k (st.listOf k ++ [y]) }
def decrS (st : FSt) (k y : Int) : FSt × Bool × Int :=
  if st.isH k then if st.cnt y = 0 then (st, false, 60) else if 0 < st.cnt y - 1 then (setC st y (st.cnt y - 1), false, 0) else (backS (setC st y 0) k.toNat y, true, 0) else (st, false, 1)
theorem ix_of {st : FSt} {y : Int} (h : st.inR y) : st.ix y < st.counts.length ∧ ((st.ix y : Nat) : Int) = y - st.first ∧ st.counts[st.ix y]? = some (st.cnt y) := by
  have h' := h
  unfold FSt.inR at h
  have h2 : st.ix y < st.counts.length := by unfold FSt.ix; omega
  refine ⟨h2, by unfold FSt.ix; omega, ?_⟩
  unfold FSt.cnt
  rw [if_pos h']
  show st.counts[st.ix y]? = some ((st.counts[st.ix y]?).getD 0)
  rw [List.getElem?_eq_getElem h2]; rfl
theorem cnt_pos {st : FSt} {y : Int} (h : st.cnt y ≠ 0) : st.inR y := by
  unfold FSt.cnt at h
  by_cases h2 : st.inR y
  · exact h2
  · rw [if_neg h2] at h; exact absurd rfl h
theorem setC_inR (st : FSt) (y c z : Int) : (setC st y c).inR z ↔ st.inR z := by simp [setC, FSt.inR]
theorem setC_cnt {st : FSt} {y : Int} (h : st.inR y) (c z : Int) : (setC st y c).cnt z = if z = y then c else st.cnt z := by
  obtain ⟨h1, h2, _⟩ := ix_of h
  by_cases hz : st.inR z
  · obtain ⟨k1, k2, k3⟩ := ix_of hz
    unfold FSt.cnt
    rw [if_pos ((setC_inR _ _ _ _).2 hz), if_pos hz]
    show ((st.counts.set (st.ix y) c)[st.ix z]?).getD 0 = if z = y then c else (st.counts[st.ix z]?).getD 0
    by_cases e : z = y
    · subst e; rw [List.getElem?_set_self h1, if_pos rfl]; rfl
    · rw [List.getElem?_set_ne (by omega), if_neg e]
  · have hne : z ≠ y := fun e => hz (e ▸ h)
    unfold FSt.cnt
    rw [if_neg fun k => hz ((setC_inR _ _ _ _).1 k), if_neg hz, if_neg hne]
theorem FWf.cnt_le {st : FSt} (w : FWf st) (y : Int) : 0 ≤ st.cnt y ∧ st.cnt y ≤ 1048576 := by
  by_cases h : st.inR y
  · obtain ⟨_, _, k⟩ := ix_of h
    exact w.cr _ (List.mem_of_getElem? k)
  · unfold FSt.cnt; rw [if_neg h]; omega
theorem setC_cr {st : FSt} (w : FWf st) {y c : Int} (hc : 0 ≤ c ∧ c ≤ 1048576) : ∀ c' ∈ (setC st y c).counts, 0 ≤ c' ∧ c' ≤ 1048576 := fun c' h => by
  rcases List.mem_or_eq_of_mem_set h with h | rfl
  · exact w.cr c' h
  · exact hc
/-- A count that stays above 0. -/
theorem setC_wf {st : FSt} (w : FWf st) {y c : Int} (hy : st.cnt y ≠ 0) (hc : 0 < c ∧ c ≤ 1048576) : FWf (setC st y c) := by
  have hr := cnt_pos hy
  have hp := w.cnt_le y
  obtain ⟨h1, _, h3⟩ := ix_of hr
  refine ⟨w.h1, w.h8, w.l8, w.le, w.f0, ?_, w.b1, w.b2, w.b3, ?_, setC_cr w ⟨by omega, hc.2⟩, fun z => ?_, ?_, w.so, w.z⟩
  · have := w.n1; simpa [setC] using this
  · have := w.fit; simpa [setC] using this
  · have := w.I1 z
    rw [show (setC st y c).all = st.all from rfl, this, setC_cnt hr]
    by_cases e : z = y
    · subst e; rw [if_neg (by omega), if_neg (by simp; omega)]
    · simp only [setC_inR, if_neg e]
  · have := used_set c h3
    have i2 := w.I2
    rw [if_pos (by omega), if_pos hc.1] at this
    show st.freeN + usedL (st.counts.set (st.ix y) c) = (st.counts.set (st.ix y) c).length
    rw [List.length_set]; omega
theorem incr_wf {st : FSt} (w : FWf st) (y : Int) : FWf (incrS st y).1 := by
  unfold incrS
  split
  · exact w
  · split
    · exact w
    · rename_i h1 h2
      have := w.cnt_le y
      exact setC_wf w h1 ⟨by omega, by omega⟩
theorem dropLast_count {l : List Int} (h : l ≠ []) (z : Int) : l.dropLast.count z + (if z = l.getLastD 0 then 1 else 0) = l.count z := by
  have e : l = l.dropLast ++ [l.getLastD 0] := by
    rw [List.getLastD_eq_getLast?, List.getLast?_eq_some_getLast h]
    exact (List.dropLast_concat_getLast h).symm
  conv => rhs; rw [e]
  rw [List.count_append]
  generalize l.getLastD 0 = y
  by_cases hz : z = y
  · subst hz; simp
  · rw [if_neg hz, List.count_eq_zero_of_not_mem (l := [y]) (by simpa using hz)]
theorem last_mem {l : List Int} (h : l ≠ []) : l.getLastD 0 ∈ l := by
  rw [List.getLastD_eq_getLast?, List.getLast?_eq_some_getLast h]
  exact List.getLast_mem h
theorem pop_wf {st : FSt} (w : FWf st) {k : Nat} (hk : k < st.harts) (hl : st.listOf k ≠ []) : FWf (popS st k) ∧ st.inR ((st.listOf k).getLastD 0) ∧ st.cnt ((st.listOf k).getLastD 0) = 0 ∧ (st.listOf k).getLastD 0 ∈ st.all := by
  have h8 := w.l8
  have hh := w.h8
  have hs : st.lists[k]? = some (st.listOf k) := getD_some (by omega)
  have hm : (st.listOf k).getLastD 0 ∈ st.all := by
    unfold FSt.all
    exact List.mem_append_left _ (List.mem_flatten.2 ⟨_, List.mem_of_getElem? hs, last_mem hl⟩)
  obtain ⟨hr, h0⟩ := w.mem hm
  refine ⟨?_, hr, h0, hm⟩
  have hdl := fun z => dropLast_count hl z
  have hdlen : (st.listOf k).dropLast.length + 1 = (st.listOf k).length := by
    have := List.length_pos_iff.2 hl
    rw [List.length_dropLast]; omega
  generalize hy : (st.listOf k).getLastD 0 = y at *
  obtain ⟨h1, _, h3⟩ := ix_of hr
  rw [h0] at h3
  have ep : popS st k = { setC st y 1 with lists := st.lists.set k (st.listOf k).dropLast } := by unfold popS setC; rw [hy]
  have hcnt : ∀ z, (popS st k).all.count z + (if z = y then 1 else 0) = st.all.count z := fun z => by
    have c1 := count_set (y := z) (st.listOf k).dropLast hs
    have := hdl z
    unfold FSt.all
    rw [ep]
    simp only [setC, List.count_append]
    omega
  refine ⟨w.h1, w.h8, ?_, ?_, w.f0, ?_, w.b1, w.b2, w.b3, ?_, ?_, fun z => ?_, ?_, w.so, fun z hz => ?_⟩
  · rw [ep]; simpa using h8
  · intro j hj hj8
    rw [ep]
    show (st.lists.set k _)[j]? = some []
    have hj : st.harts ≤ j := hj
    rw [List.getElem?_set_ne (by omega)]
    exact w.le j hj hj8
  · have := w.n1; rw [ep]; simpa [setC] using this
  · have := w.fit; rw [ep]; simpa [setC] using this
  · rw [ep]; exact setC_cr w ⟨by omega, by omega⟩
  · have a := hcnt z
    have b := w.I1 z
    have c : (popS st k).inR z ∧ (popS st k).cnt z = 0 ↔ st.inR z ∧ (if z = y then (1 : Int) else st.cnt z) = 0 := by
      rw [← setC_cnt hr, ← setC_inR st y 1, ep]
      exact Iff.rfl
    simp only [c]
    by_cases e : z = y
    · subst e
      rw [if_pos rfl, b, if_pos ⟨hr, h0⟩] at a
      rw [if_neg (by simp)]; omega
    · rw [if_neg e] at a ⊢
      omega
  · have c1 := len_set (st.listOf k).dropLast hs
    have c2 := used_set 1 h3
    have i2 := w.I2
    rw [if_neg (by omega), if_pos (by omega)] at c2
    have e1 : (popS st k).freeN + 1 = st.freeN := by
      unfold FSt.freeN
      rw [ep]
      simp only [setC]
      omega
    have e2 : usedL (popS st k).counts = usedL st.counts + 1 := by rw [ep]; show usedL (st.counts.set (st.ix y) 1) = _; omega
    have e3 : (popS st k).counts.length = st.counts.length := by rw [ep]; simp [setC]
    omega
  · refine w.z z ?_
    rw [← List.count_pos_iff] at *
    have := hcnt z
    omega
theorem ready_wf {st : FSt} (w : FWf st) {k : Nat} (hk : k < st.harts) (hf : st.freeN ≠ 0) : FWf (readyS st k) ∧ (readyS st k).listOf k ≠ [] := by
  have h8 := w.l8
  have hh := w.h8
  have hs : st.lists[k]? = some (st.listOf k) := getD_some (by omega)
  unfold readyS
  by_cases h : st.listOf k = []
  · rw [if_pos h]
    rw [h] at hs
    refine ⟨fill_wf w hk hs hf, ?_⟩
    obtain ⟨_, _, _, _, _, l, e, hne⟩ := fill_said w hk hs hf
    unfold FSt.listOf
    rw [e]; exact hne
  · rw [if_neg h]; exact ⟨w, h⟩
theorem alloc_wf {st : FSt} (w : FWf st) (k : Int) : FWf (allocS st k).1 := by
  unfold allocS
  split
  · split
    · exact w
    · rename_i h1 h2
      unfold FSt.isH at h1
      obtain ⟨w2, h3⟩ := ready_wf w (k := k.toNat) (by omega) h2
      have hh : (readyS st k.toNat).harts = st.harts := by unfold readyS; split <;> rfl
      exact (pop_wf w2 (by omega) h3).1
  · exact w
theorem zeroF_frames {bs : List Int} (y : Int) : (zeroF bs y).length = bs.length := zeroF_len bs y
theorem sorted_pw (l : List Int) : (sorted l).Pairwise fun x y => decide (x ≤ y) = true :=
  List.pairwise_mergeSort (le := fun x y => decide (x ≤ y)) (fun a b c h1 h2 => by simp at *; omega) (fun a b => by simp; omega) l
theorem back_wf {st : FSt} (w : FWf st) {k : Nat} (hk : k < st.harts) {y : Int} (hy : st.cnt y = 1) : FWf (backS (setC st y 0) k y) := by
  have h8 := w.l8
  have hh := w.h8
  have hr := cnt_pos (st := st) (y := y) (by omega)
  obtain ⟨h1, _, h3⟩ := ix_of hr
  rw [hy] at h3
  have hfi := w.frameIn hr
  have hs : st.lists[k]? = some (st.listOf k) := getD_some (by omega)
  have hlo : (setC st y 0).listOf k = st.listOf k := rfl
  have key : ∀ (ls : List (List Int)) (cm : List Int), (∀ z, ls.flatten.count z + cm.count z = st.lists.flatten.count z + st.common.count z + (if z = y then 1 else 0)) → ls.flatten.length + cm.length = st.lists.flatten.length + st.common.length + 1 → ls.length = 8 → (∀ j : Nat, st.harts ≤ j → j < 8 → ls[j]? = some []) → cm.Pairwise (fun x y => decide (x ≤ y) = true) → FWf { setC st y 0 with bs := zeroF st.bs y, common := cm, lists := ls } := by
    intro ls cm k1 k2 k3 k4 k5
    refine ⟨w.h1, w.h8, k3, k4, w.f0, ?_, ?_, ?_, ?_, ?_, setC_cr w ⟨by omega, by omega⟩, fun z => ?_, ?_, k5, fun z hz => ?_⟩
    · have := w.n1; simpa [setC] using this
    · show (zeroF st.bs y).length ≤ _; rw [zeroF_len]; exact w.b1
    · show _ ≤ (zeroF st.bs y).length; rw [zeroF_len]; exact w.b2
    · show (zeroF st.bs y).length % 256 = 0; rw [zeroF_len]; exact w.b3
    · have := w.fit
      show _ ≤ (((zeroF st.bs y).length / 256 : Nat) : Int)
      rw [zeroF_len]
      simpa [setC] using this
    · have a := k1 z
      have b := w.I1 z
      have c : (({ setC st y 0 with bs := zeroF st.bs y, common := cm, lists := ls } : FSt).inR z ∧ ({ setC st y 0 with bs := zeroF st.bs y, common := cm, lists := ls } : FSt).cnt z = 0) ↔ st.inR z ∧ (if z = y then (0 : Int) else st.cnt z) = 0 := by
        rw [← setC_cnt hr, ← setC_inR st y 0]
        exact Iff.rfl
      simp only [c]
      simp only [FSt.all, List.count_append] at b ⊢
      by_cases e : z = y
      · subst e
        rw [if_pos rfl] at a ⊢
        rw [if_neg (by omega)] at b
        rw [if_pos ⟨hr, rfl⟩]; omega
      · rw [if_neg e] at a ⊢
        omega
    · have c2 := used_set 0 h3
      have i2 := w.I2
      rw [if_pos (by omega), if_neg (by omega)] at c2
      show cm.length + ls.flatten.length + usedL (st.counts.set (st.ix y) 0) = (st.counts.set (st.ix y) 0).length
      rw [List.length_set]
      unfold FSt.freeN at i2
      omega
    · show frameB (zeroF st.bs y) z = zerosB 256
      by_cases e : z = y
      · subst e; exact frameB_zeroed hfi
      · have hz' : z ∈ st.all := by
          rw [← List.count_pos_iff] at *
          have a := k1 z
          rw [if_neg e] at a
          simp only [FSt.all, List.count_append] at hz ⊢
          omega
        rw [frameB_zero hfi (w.frameIn (w.mem hz').1) e]
        exact w.z z hz'
  have cy : ∀ z, [y].count z = if z = y then 1 else 0 := fun z => by
    by_cases e : z = y
    · subst e; simp
    · rw [if_neg e, List.count_eq_zero_of_not_mem (l := [y]) (by simpa using e)]
  unfold backS
  rw [hlo]
  by_cases hb : 16 < (st.listOf k ++ [y]).length
  · rw [if_pos hb]
    refine key _ _ (fun z => ?_) ?_ (by simpa [setC] using h8) (fun j hj hj8 => ?_) (sorted_pw _)
    · have c1 := count_set (y := z) ((st.listOf k ++ [y]).drop 8) hs
      have c2 := count_td z (st.listOf k ++ [y]) 8
      have c3 := (sorted_perm (st.common ++ (st.listOf k ++ [y]).take 8)).count_eq z
      rw [List.count_append] at c3
      rw [List.count_append (l₁ := st.listOf k), cy] at c2
      show ((st.lists.set k _).flatten.count z + (sorted (st.common ++ _)).count z) = _
      omega
    · have c1 := len_set ((st.listOf k ++ [y]).drop 8) hs
      have c3 := sorted_len (st.common ++ (st.listOf k ++ [y]).take 8)
      rw [List.length_append, List.length_take] at c3
      rw [List.length_drop] at c1
      rw [List.length_append, List.length_singleton] at c1 c3 hb
      show (st.lists.set k _).flatten.length + (sorted (st.common ++ _)).length = _
      omega
    · show (st.lists.set k _)[j]? = some []
      rw [List.getElem?_set_ne (by omega)]
      exact w.le j hj hj8
  · rw [if_neg hb]
    refine key _ _ (fun z => ?_) ?_ (by simpa [setC] using h8) (fun j hj hj8 => ?_) w.so
    · have c1 := count_set (y := z) (st.listOf k ++ [y]) hs
      rw [List.count_append, cy] at c1
      show ((st.lists.set k _).flatten.count z + st.common.count z) = _
      omega
    · have c1 := len_set (st.listOf k ++ [y]) hs
      rw [List.length_append, List.length_singleton] at c1
      show (st.lists.set k _).flatten.length + st.common.length = _
      omega
    · show (st.lists.set k _)[j]? = some []
      rw [List.getElem?_set_ne (by omega)]
      exact w.le j hj hj8
theorem decr_wf {st : FSt} (w : FWf st) (k y : Int) : FWf (decrS st k y).1 := by
  unfold decrS
  split
  · split
    · exact w
    · rename_i h1 h2
      have := w.cnt_le y
      unfold FSt.isH at h1
      split
      · exact setC_wf w h2 ⟨by omega, by omega⟩
      · exact back_wf w (by omega) (by omega)
  · exact w
end Go.Proofs.Ytfbagndfifibiaa

namespace Go.Proofs.Ytfbagndfifibiaa
open Go.ChangeShapes Go.WideShapes Go.ChangeAt Go.RowKit Go.Lm
set_option linter.unusedSimpArgs false
set_option maxRecDepth 10000
theorem last_at {l : List Int} {w : Nat} (h : l.length = w + 1) : l[w]? = some (l.getLastD 0) := by
  rw [List.getLastD_eq_getLast?, List.getLast?_eq_getElem?, h, Nat.add_sub_cancel, List.getElem?_eq_getElem (by omega)]
  rfl
section
variable {F : Nat → Prop} {g h h' : LHeap} {x m a k : Nat} {cs : List LV} {CV CC : LV} {counts common bs : List Int} {rs : List FX} {r : FX} {Zs : List Thing} {st : FSt} {S : Nat → Prop} {first : Int} {harts : Nat} {Ls : List LV} {V U : LV} {l l2 : List Int}
/-- A count is stored. -/
theorem fr_stn (Sp : Sep F g h (FrG x m a cs CV counts CC common bs rs ++ Zs)) {j : Nat} (hj : j < counts.length) (c : Int) : ∃ b off h', ixAddrL none 1 CV (.int .i64 (j : Int)) = some (.ptr b off) ∧ storeV 1 (.ptr b off) (.int .i64 c) h = some h' ∧ Sep F g h' (FrG x m a cs CV (counts.set j c) CC common bs rs ++ Zs) := by
  obtain ⟨b, off, h', e1, e2, S', _⟩ := Sp.stf (E := intE) (V := CV) (l := counts) 1 rfl (k := j) (j := 0) c (v := i c) rfl (List.getElem?_eq_getElem hj) (by decide) rfl
  have := (fr_cv Sp).ix (k := .i64) hj
  rw [e1] at this
  exact ⟨b, off, h', this, e2, S'⟩
theorem fr_cutk (Sp : Sep F g h (FrG x m a cs CV counts CC common bs rs ++ Zs)) (hk : rs[k]? = some r) {w : Nat} (hw : r.l.length = w + 1) : ∃ U, cutT Try.prog 22 r.V none (some (.int .i64 (w : Int))) none (limL r.V h) = some U ∧ U.cell = true ∧ Sep F g h (FrG x m a cs CV counts CC common bs (rs.set k ⟨U, r.l.dropLast⟩) ++ Zs) := by
  have R := fr_row Sp hk
  have G := fr_grow Sp hk
  have M : Mine h r.V := Sp.mine _ (fr_at hk)
  obtain ⟨U, e, R', _, ob, mi⟩ := R.cut G.capd (i := 0) (j := w) (by omega) (by omega) none (some w) rfl rfl
  have G' := cut_grow R (by omega) G M e
  have R2 : Row h U intE r.l.dropLast := by
    rw [List.dropLast_eq_take, hw, Nat.add_sub_cancel]
    simpa using R'
  refine ⟨U, (((cut_t ty50 sz3 (by decide) _ _).1 _ _).trans e), R'.cell, ?_⟩
  have lt : ∀ b, r.V.obj = some b → b < h.next := fun b hb => Sp.lt _ (fr_at hk) hb
  have S' := Sp.put (5 + k) (fr_at hk) (Thing.vec intE U r.l.dropLast) (Fr.refl _ _) ⟨R2, G', mi M⟩ fun b hb => ⟨.inl (ob b hb), lt b (ob b hb)⟩
  rw [fr_set (List.getElem?_eq_some_iff.1 hk).1] at S'
  exact S'
theorem pop_ok (Sp : Sep F g h (FrT x m a first harts CV counts CC common bs rs ++ Zs)) (h8 : rs.length = 8) (hk : rs[k]? = some r) {w : Nat} (hw : r.l.length = w + 1) (hb : r.l.length ≤ 4096) {j : Nat} (hj : r.l.getLastD 0 - first = j) (hjl : j < counts.length) (f0 : 0 ≤ first) (f1 : first ≤ 4096) (cl : counts.length ≤ 4096) {K : LV → LHeap → Prop}
    (hK : ∀ h' rs', Sep F g h' (FrT x m a first harts CV (counts.set j 1) CC common bs rs' ++ Zs) → rs'.map (·.l) = (rs.map (·.l)).set k r.l.dropLast → K (.tuple [i (r.l.getLastD 0), i 0]) h') : J18_2 (.ptr x 0) (i k) h K := by
  have c := fr_fc Sp h8
  have c1 := c.c1
  have c3 := c.c3
  have kl := (List.getElem?_eq_some_iff.1 hk).1
  have hix := ix8 (x := x) (k := k) (by omega)
  have hld := FC.list (Ls := rs.map (·.V)) (k := k) (V := r.V) (fr_x Sp) (by rw [List.getElem?_map, hk]; rfl)
  have hl := (fr_row Sp hk).len (P := Try.prog) ty50
  obtain ⟨b1, o1, ix1, ld1⟩ := at_ix (fr_row Sp hk) (j := w) (by omega) _ (last_at hw)
  obtain ⟨U, hcut, cU, S1⟩ := fr_cutk Sp hk hw
  obtain ⟨h2, hst, S2⟩ := fr_stk S1 (by simp [h8]) (k := k) (V := U) (by omega) cU
  have c' := FC.of (fr_x S2) (by simp [h8])
  have c1' := c'.c1
  have c3' := c'.c3
  obtain ⟨b3, o3, h3, ix3, st3, S3⟩ := fr_stn S2 (j := j) hjl 1
  have ew : (r.l.length : Int) - 1 = w := by omega
  simp (disch := omega) only [J18_2, i, sh, sh2, shi, dec, hix, hld, b_len, hl, ew, ix1, ld1, hcut, hst, c1', c3', hj, ix3, st3]
  refine ⟨⟨hK _ (rs.set k ⟨U, r.l.dropLast⟩) ?_ (by rw [List.map_set]), trivial⟩, trivial⟩
  unfold FrT
  rw [List.map_set]
  exact S3
theorem fr_open (B : (FBox x m S st).ok g) (lt : ∀ b, S b → b < g.next) : ∃ a CV CC rs, Sep S g g (FrT x m a st.first st.harts CV st.counts CC st.common st.bs rs ++ []) ∧ rs.map (·.l) = st.lists ∧ FWf st := by
  obtain ⟨Ts, ⟨a, CV, CC, rs, rfl, h1, h2⟩, Sp⟩ := box_open B lt
  exact ⟨a, CV, CC, rs, by rw [List.append_nil]; exact Sp, h1, h2⟩
theorem fr_shut (Sp : Sep S g h (FrT x m a st.first st.harts CV st.counts CC st.common st.bs rs ++ [])) (hl : rs.map (·.l) = st.lists) (w : FWf st) : After (FD x m) S g h st := by
  rw [List.append_nil] at Sp
  exact Sp.after ⟨a, CV, CC, rs, rfl, hl, w⟩
theorem fr8 (hl : rs.map (·.l) = st.lists) (w : FWf st) : rs.length = 8 := by
  have := w.l8
  rw [← hl, List.length_map] at this
  exact this
theorem fr_lens (hl : rs.map (·.l) = st.lists) (w : FWf st) : st.common.length + lensL rs = st.freeN := by
  rw [lensL_eq, hl]; rfl
theorem FWf.bounds (w : FWf st) : 0 ≤ st.first ∧ st.first ≤ 4096 ∧ st.counts.length ≤ 4096 := by
  have := w.fit; have := w.b1; have := w.f0; have := w.n1
  omega
theorem fr_r (hl : rs.map (·.l) = st.lists) (w : FWf st) (hk : k < 8) : ∃ r, rs[k]? = some r ∧ r.l = st.listOf k := by
  have h8 := fr8 hl w
  refine ⟨rs[k], List.getElem?_eq_getElem (by omega), ?_⟩
  unfold FSt.listOf
  rw [← hl, List.getElem?_map, List.getElem?_eq_getElem (by omega)]
  rfl
theorem alloc_pop {CC : LV} (Sp : Sep S g h (FrT x m a st.first st.harts CV st.counts CC st.common st.bs rs ++ [])) (hl : rs.map (·.l) = st.lists) (w : FWf st) (hk : k < st.harts) (hne : st.listOf k ≠ []) :
    J18_2 (.ptr x 0) (i k) h fun v h => v = .tuple [i ((st.listOf k).getLastD 0), i 0] ∧ After (FD x m) S g h (popS st k) := by
  have hh := w.h8
  obtain ⟨r, hr, er⟩ := fr_r hl w (k := k) (by omega)
  have hp := List.length_pos_iff.2 hne
  obtain ⟨wp, hin, _, _⟩ := pop_wf w (k := k) hk hne
  obtain ⟨i1, i2, _⟩ := ix_of hin
  have hle := w.listLe (k := k) (l := st.listOf k) (getD_some (by rw [w.l8]; omega))
  have bd := w.bounds
  rw [← er] at i1 i2 hp hle
  have e : popS st k = { st with lists := st.lists.set k r.l.dropLast, counts := st.counts.set (st.ix (r.l.getLastD 0)) 1 } := by unfold popS; rw [er]
  rw [e] at wp ⊢
  rw [← er]
  refine pop_ok Sp (fr8 hl w) hr (w := r.l.length - 1) (by omega) hle (j := st.ix (r.l.getLastD 0)) (by omega) i1 bd.1 bd.2.1 bd.2.2 fun h' rs'' S' hl' => ⟨rfl, ?_⟩
  rw [hl] at hl'
  exact fr_shut (a := a) (CV := CV) (CC := CC) (rs := rs'') S' hl' wp
theorem Alloc_ok (B : (FBox x m S st).ok g) (lt : ∀ b, S b → b < g.next) (k : Int) : Ok Try.prog 18 [.ptr x 0, i k] g fun v h => v = .tuple [i (allocS st k).2.1, i (allocS st k).2.2] ∧ After (FD x m) S g h (allocS st k).1 := by
  obtain ⟨a, CV, CC, rs, Sp, hl, w⟩ := fr_open B lt
  have h8 := fr8 hl w
  have hh := w.h8
  have hlen := fr_lens hl w
  have hfl := w.freeLe
  have c := fr_fc Sp h8
  refine ok18 fun _ _ => ?_
  simp (disch := omega) only [F18, J18_0]
  refine (made_ok c).mono ?_
  rintro _ h ⟨rfl, rfl⟩
  simp (disch := omega) only [i, sh, sh2]
  refine (isH_ok c k).mono ?_
  rintro _ h ⟨rfl, rfl⟩
  by_cases hk : st.isH k
  · have ed : decide (0 ≤ k ∧ k < (st.harts : Int)) = true := decide_eq_true hk
    simp (disch := omega) only [i, sh, sh2, ed]
    refine (free_ok Sp h8 (by omega)).mono ?_
    rintro _ h ⟨rfl, rfl⟩
    rw [hlen]
    by_cases hf : st.freeN = 0
    · rw [hf]
      simp (disch := omega) only [i, sh, sh2, shi, dec]
      unfold allocS
      rw [if_pos hk, if_pos hf]
      exact ⟨rfl, fr_shut Sp hl w⟩
    · simp (disch := omega) only [i, sh, sh2, shi, dec]
      have ea : allocS st k = (popS (readyS st k.toNat) k.toNat, ((readyS st k.toNat).listOf k.toNat).getLastD 0, 0) := by unfold allocS; rw [if_pos hk, if_neg hf]
      rw [ea]
      unfold FSt.isH at hk
      obtain ⟨k, rfl⟩ : ∃ n : Nat, k = n := ⟨k.toNat, by omega⟩
      rw [Int.toNat_natCast]
      obtain ⟨w2, hne⟩ := ready_wf w (k := k) (by omega) hf
      obtain ⟨r, hr, er⟩ := fr_r hl w (k := k) (by omega)
      have hix := ix8 (x := x) (k := k) (by omega)
      have hld := FC.list (Ls := rs.map (·.V)) (k := k) (V := r.V) (fr_x Sp) (by rw [List.getElem?_map, hr]; rfl)
      have hln := (fr_row Sp hr).len (P := Try.prog) ty50
      by_cases he : st.listOf k = []
      · have e0 : (r.l.length : Int) = 0 := by rw [er, he]; rfl
        have er1 : readyS st k = fillS st k := by unfold readyS; rw [if_pos he]
        rw [er1] at w2 hne ⊢
        simp (disch := omega) only [J18_1, i, sh, sh2, shi, dec, hix, hld, b_len, hln, e0]
        refine (fill_ok Sp h8 w.h8 (by omega) hr (er.trans he) (by omega) fun hc => ?_).mono ?_
        · rw [hl]; exact rich_ne w hf hc
        · rintro _ h1 ⟨CC', rs', S1, hl1⟩
          rw [hl] at S1 hl1
          exact alloc_pop (st := fillS st k) S1 hl1 w2 (by show k < st.harts; omega) hne
      · have e0 : (r.l.length : Int) ≠ 0 := by rw [er]; have := List.length_pos_iff.2 he; omega
        have er1 : readyS st k = st := by unfold readyS; rw [if_neg he]
        rw [er1] at w2 hne ⊢
        simp (disch := omega) only [J18_1, i, sh, sh2, shi, dec, hix, hld, b_len, hln]
        exact alloc_pop Sp hl w2 (by omega) hne
  · have ed : decide (0 ≤ k ∧ k < (st.harts : Int)) = false := decide_eq_false hk
    simp (disch := omega) only [i, sh, sh2, ed]
    unfold allocS
    rw [if_neg hk]
    exact ⟨rfl, fr_shut Sp hl w⟩
end
end Go.Proofs.Ytfbagndfifibiaa

namespace Go.Proofs.Ytfbagndfifibiaa
open Go.ChangeShapes Go.WideShapes Go.ChangeAt Go.RowKit Go.Lm
set_option linter.unusedSimpArgs false
set_option linter.unusedVariables false
set_option maxRecDepth 10000
section
variable {F : Nat → Prop} {g h h' : LHeap} {x m a k : Nat} {cs : List LV} {CV CC : LV} {counts common bs bs' : List Int} {rs : List FX} {r : FX} {Zs : List Thing} {st : FSt} {S : Nat → Prop} {first : Int} {harts : Nat} {Ls : List LV} {V U : LV} {l l2 : List Int}
theorem fr_mem (Sp : Sep F g h (FrG x m a cs CV counts CC common bs rs ++ Zs)) (M : MemTo h h' a bs') (hl : bs'.length = bs.length) : Sep F g h' (FrG x m a cs CV counts CC common bs' rs ++ Zs) := by
  have S' := Sp.put 4 rfl (Thing.cells a (bs'.map B8)) M.fr M.at_ fun b hb => ⟨.inl hb, Nat.lt_of_lt_of_le (Sp.lt 4 rfl hb) M.fr.le⟩
  have e : (FrG x m a cs CV counts CC common bs rs ++ Zs).set 4 (Thing.cells a (bs'.map B8)) = FrG x m a cs CV counts CC common bs' rs ++ Zs := by
    unfold FrG
    rw [hl]
    rfl
  rw [← e]
  exact S'
theorem zero_ok (M : MemAt h m a bs) (y : Int) : Ok Try.prog 22 [.ptr m 0, i y] h fun v h' => v = i (if frameIn bs y then 0 else 10) ∧ MemTo h h' a (zeroF bs y) := by
  refine (Zero_ok M y).mono ?_
  rintro _ h' ⟨rfl, rfl⟩
  refine ⟨rfl, ?_⟩
  split
  · exact ⟨Fr.set _ rfl, get_set_eq _ _ _⟩
  · rename_i hn
    refine ⟨Fr.refl _ _, ?_⟩
    unfold zeroF
    rw [if_neg hn]
    exact M.b
theorem bs50_1 (y : Int) (h : LHeap) : buildSliceL Try.prog 22 1 [(0, i y)] h = some (.slice h.next 0 1 (.ex 1), h.alloc (.cells [i y] .ex)) := nr (by kernel_rfl)
theorem fr_push (Sp : Sep F g h (FrG x m a cs CV counts CC common bs rs ++ Zs)) (hk : rs[k]? = some r) (y : Int) (hb : r.l.length ≤ 2 ^ 32) :
    ∃ V' h', builtinL Try.prog .append [22, 22] [r.V, .slice h.next 0 1 (.ex 1)] (h.alloc (.cells [.int .i64 y] .ex)) = some (V', h') ∧ Sep F g h' (FrG x m a cs CV counts CC common bs (rs.set k ⟨V', r.l ++ [y]⟩) ++ Zs) ∧ V'.cell = true := by
  obtain ⟨V', h', e, S', c, _⟩ := Sp.push (5 + k) (fr_at hk) (bytes := 8) y (cs := [i y]) rfl (by omega)
  rw [fr_set (List.getElem?_eq_some_iff.1 hk).1] at S'
  exact ⟨V', h', (ap50 rfl _).trans e, S', c⟩
theorem fr_pushc (Sp : Sep F g h (FrG x m a cs CV counts CC common bs rs ++ Zs)) (y : Int) (hb : common.length ≤ 2 ^ 32) :
    ∃ V' h', builtinL Try.prog .append [22, 22] [CC, .slice h.next 0 1 (.ex 1)] (h.alloc (.cells [.int .i64 y] .ex)) = some (V', h') ∧ Sep F g h' (FrG x m a cs CV counts V' (common ++ [y]) bs rs ++ Zs) ∧ V'.cell = true := by
  obtain ⟨V', h', e, S', c, _⟩ := Sp.push (E := intE) (V := CC) (l := common) 2 rfl (bytes := 8) y (cs := [i y]) rfl (by omega)
  exact ⟨V', h', (ap50 rfl _).trans e, S', c⟩
theorem back_ok (Sp : Sep F g h (FrT x m a first harts CV counts CC common bs rs ++ Zs)) (h8 : rs.length = 8) (hk : rs[k]? = some r) (hb : r.l.length ≤ 4096) (hc : common.length ≤ 4096) (b1 : bs.length ≤ 1048576) (b2 : 256 ≤ bs.length) (b3 : bs.length % 256 = 0) (y : Int) :
    Ok Try.prog 65 [.ptr x 0, i k, i y] h fun _ h' => ∃ CC' rs', Sep F g h' (FrT x m a first harts CV counts CC' (if 16 < (r.l ++ [y]).length then sorted (common ++ (r.l ++ [y]).take 8) else common) (zeroF bs y) rs' ++ Zs) ∧ rs'.map (·.l) = (rs.map (·.l)).set k (if 16 < (r.l ++ [y]).length then (r.l ++ [y]).drop 8 else r.l ++ [y]) := by
  refine ok65 fun _ _ => ?_
  have c := fr_fc Sp h8
  have c0 := c.c0
  have kl := (List.getElem?_eq_some_iff.1 hk).1
  simp (disch := omega) only [F65, i, sh, sh2, c0]
  refine (zero_ok (fr_m Sp b1 b2 b3) y).mono ?_
  rintro _ h1 ⟨rfl, M1⟩
  have S1 := fr_mem Sp M1 (zeroF_len _ _)
  have hix := ix8 (x := x) (k := k) (by omega)
  have hld := FC.list (Ls := rs.map (·.V)) (k := k) (V := r.V) (fr_x S1) (by rw [List.getElem?_map, hk]; rfl)
  obtain ⟨V2, h2, happ, S2, cV2⟩ := fr_push S1 hk y (by omega)
  have hbs := bs50_1 y h1
  simp only [i] at hbs
  have hk2 : (rs.set k (⟨V2, r.l ++ [y]⟩ : FX))[k]? = some ⟨V2, r.l ++ [y]⟩ := List.getElem?_set_self kl
  have hln := (fr_row S2 hk2).len (P := Try.prog) ty50
  have hlen : (r.l ++ [y]).length = r.l.length + 1 := by simp
  by_cases hbig : 16 < (r.l ++ [y]).length
  · have c2 := FC.of (fr_x S2) (by simp [h8])
    have c12 := c2.c12
    obtain ⟨U, hcut, RU⟩ := cut_hi (fr_row S2 hk2) (fr_grow S2 hk2) (j := 8) (by show 8 ≤ (r.l ++ [y]).length; omega)
    have hcut : cutT Try.prog 22 V2 none (some (.int .i64 8)) none (limL V2 h2) = some U := hcut
    obtain ⟨C3, h3, happ3, S3, cC3⟩ := fr_appc S2 RU (by rw [List.length_take]; omega)
    obtain ⟨h4, hst4, S4⟩ := fr_stc S3 (by simp [h8]) (V := C3) cC3
    have c4 := (FC.of (fr_x S4) (by simp [h8])).c12
    simp (disch := omega) only [J65_0, J65_1, i, sh, sh2, shi, dec, hix, hld, hbs, happ, b_len, hln, c12, hcut, happ3, hst4, c4]
    refine ⟨⟨?_, trivial⟩, trivial⟩
    have l4 : (common ++ (r.l ++ [y]).take 8).length ≤ 4104 := by rw [List.length_append, List.length_take]; omega
    refine (sort_ok (l := common ++ (r.l ++ [y]).take 8) sort74 (fr_cc S4) (S4.mine (E := intE) (V := C3) 2 rfl) (by omega)).mono ?_
    rintro _ h5 ⟨rfl, R5, M5, G5, f5, n5⟩
    have S5 : Sep F g h5 (FrG x m a (frC m first harts CV (rs.map (·.V)) C3) CV counts C3 (sorted (common ++ (r.l ++ [y]).take 8)) (zeroF bs y) (rs.set k ⟨V2, r.l ++ [y]⟩) ++ Zs) :=
      S4.put 2 rfl (Thing.vec intE C3 (sorted (common ++ (r.l ++ [y]).take 8))) f5 ⟨R5, G5 (fr_growc S4), M5⟩ fun b hb => ⟨.inl hb, by rw [n5]; exact S4.lt 2 rfl hb⟩
    obtain ⟨U6, hcut6, RU6⟩ := cut_lo (fr_row S5 hk2) (fr_grow S5 hk2) (j := 8) (by show 8 ≤ (r.l ++ [y]).length; omega)
    have hcut6 : cutT Try.prog 22 V2 (some (.int .i64 8)) none none (limL V2 h5) = some U6 := hcut6
    simp (disch := omega) only [i, sh, sh2, hcut6]
    refine (clone64_ok RU6 (by rw [List.length_drop]; left; show ((r.l ++ [y]).length - 8) * 8 * 2 ≤ _; omega)).mono ?_
    rintro V7 h7 ⟨O, mi, f⟩
    have S7 := fr_newk S5 hk2 O mi f
    rw [List.set_set] at S7
    obtain ⟨h8', hst8, S8⟩ := fr_stk S7 (by simp [h8]) (k := k) (V := V7) (by omega) O.row.cell
    simp (disch := omega) only [J65_2, i, sh, sh2, hix, hst8]
    refine ⟨C3, rs.set k ⟨V7, (r.l ++ [y]).drop 8⟩, ?_, by rw [if_pos hbig, List.map_set]⟩
    rw [if_pos hbig]
    unfold FrT
    rw [List.map_set]
    exact S8
  · simp (disch := omega) only [J65_0, J65_1, J65_2, i, sh, sh2, shi, dec, hix, hld, hbs, happ, b_len, hln]
    obtain ⟨h3, hst, S3⟩ := fr_stk S2 (by simp [h8]) (k := k) (V := V2) (by omega) cV2
    simp (disch := omega) only [i, sh, sh2, hst]
    refine ⟨CC, rs.set k ⟨V2, r.l ++ [y]⟩, ?_, by rw [if_neg hbig, List.map_set]⟩
    rw [if_neg hbig]
    unfold FrT
    rw [List.map_set]
    exact S3
theorem cnt_ok (Sp : Sep F g h (FrT x m a st.first st.harts CV st.counts CC st.common st.bs rs ++ Zs)) (hl : rs.map (·.l) = st.lists) (w : FWf st) (y : Int) (y0 : -9223372036854775808 ≤ y) (y1 : y < 9223372036854775808) : Ok Try.prog 52 [.ptr x 0, i y] h fun v h' => v = i (st.cnt y) ∧ h' = h :=
  count_ok (fr_fc Sp (fr8 hl w)) (fr_cv Sp) w.bounds.1 w.bounds.2.1 w.bounds.2.2 y y0 y1
/-- A count is loaded and another one is stored. -/
theorem fr_turn (Sp : Sep F g h (FrT x m a st.first st.harts CV st.counts CC st.common st.bs rs ++ Zs)) (hl : rs.map (·.l) = st.lists) (w : FWf st) {y : Int} (hy : st.inR y) (c : Int) :
    y - st.first = (st.ix y : Nat) ∧ ∃ b off h', ixAddrL none 1 CV (.int .i64 (st.ix y : Nat)) = some (.ptr b off) ∧ cellO none off (h.get b) = some (.int .i64 (st.cnt y)) ∧ storeV 1 (.ptr b off) (.int .i64 c) h = some h' ∧ Sep F g h' (FrT x m a st.first st.harts CV (setC st y c).counts CC st.common st.bs rs ++ Zs) := by
  obtain ⟨i1, i2, i3⟩ := ix_of hy
  obtain ⟨b, off, e1, e2⟩ := at_ix (fr_cv Sp) i1 _ i3
  obtain ⟨b', off', h', e3, e4, S'⟩ := fr_stn Sp i1 c
  rw [e1] at e3
  cases e3
  exact ⟨i2.symm, b, off, h', e1, e2, e4, S'⟩
theorem Decr_ok (B : (FBox x m S st).ok g) (lt : ∀ b, S b → b < g.next) (k y : Int) (y0 : -9223372036854775808 ≤ y) (y1 : y < 9223372036854775808) : Ok Try.prog 49 [.ptr x 0, i k, i y] g fun v h => v = .tuple [.bool (decrS st k y).2.1, i (decrS st k y).2.2] ∧ After (FD x m) S g h (decrS st k y).1 := by
  obtain ⟨a, CV, CC, rs, Sp, hl, w⟩ := fr_open B lt
  have h8 := fr8 hl w
  have hh := w.h8
  have c := fr_fc Sp h8
  refine ok49 fun _ _ => ?_
  simp (disch := omega) only [F49]
  refine (made_ok c).mono ?_
  rintro _ h ⟨rfl, rfl⟩
  simp (disch := omega) only [i, sh, sh2]
  refine (isH_ok c k).mono ?_
  rintro _ h ⟨rfl, rfl⟩
  have wf := decr_wf w k y
  unfold decrS at wf ⊢
  have hle := w.cnt_le y
  by_cases hk : st.isH k
  · have ed : decide (0 ≤ k ∧ k < (st.harts : Int)) = true := decide_eq_true hk
    simp (disch := omega) only [i, sh, sh2, ed]
    refine (cnt_ok Sp hl w y y0 y1).mono ?_
    rintro _ h ⟨rfl, rfl⟩
    rw [if_pos hk] at wf ⊢
    by_cases h0 : st.cnt y = 0
    · rw [if_pos h0, h0]
      simp (disch := omega) only [i, sh, sh2, shi, dec]
      exact ⟨trivial, fr_shut Sp hl w⟩
    · rw [if_neg h0] at wf ⊢
      obtain ⟨e, b, off, h', e1, e2, e3, S'⟩ := fr_turn Sp hl w (cnt_pos h0) (st.cnt y - 1)
      have c1 := c.c1
      have c3 := c.c3
      have i1 := (ix_of (cnt_pos h0)).1
      have bd := w.bounds.2.2
      simp (disch := omega) only [i, sh, sh2, shi, dec, c1, c3, e, e1, e2, e3]
      refine ⟨?_, trivial⟩
      have hcl : (setC st y (st.cnt y - 1)).counts.length = st.counts.length := by simp [setC]
      refine (count_ok (fr_fc S' h8) (fr_cv S') w.bounds.1 w.bounds.2.1 (by rw [hcl]; exact w.bounds.2.2) y y0 y1).mono ?_
      rintro _ h ⟨rfl, rfl⟩
      have ec : cntF st.first (setC st y (st.cnt y - 1)).counts y = st.cnt y - 1 := by
        have := setC_cnt (cnt_pos h0) (st.cnt y - 1) y
        rw [if_pos rfl] at this
        exact this
      rw [ec]
      by_cases h1 : 0 < st.cnt y - 1
      · rw [if_pos h1] at wf ⊢
        simp (disch := omega) only [i, sh, sh2, shi, dec]
        exact ⟨trivial, fr_shut (st := setC st y (st.cnt y - 1)) S' hl wf⟩
      · rw [if_neg h1] at wf ⊢
        have e0 : st.cnt y - 1 = 0 := by omega
        rw [e0] at S' ⊢
        simp (disch := omega) only [i, sh, sh2, shi, dec]
        unfold FSt.isH at hk
        obtain ⟨k, rfl⟩ : ∃ n : Nat, k = n := ⟨k.toNat, by omega⟩
        rw [Int.toNat_natCast] at wf ⊢
        obtain ⟨r, hr, er⟩ := fr_r hl w (k := k) (by omega)
        have hle := w.listLe (k := k) (l := st.listOf k) (getD_some (by rw [w.l8]; omega))
        have hfl := w.freeLe
        refine (back_ok S' h8 hr (by rw [er]; exact hle) (by unfold FSt.freeN at hfl; omega) w.b1 w.b2 w.b3 y).mono ?_
        rintro _ h2 ⟨CC', rs', S2, hl2⟩
        refine ⟨trivial, ?_⟩
        rw [er, hl] at hl2
        rw [er] at S2
        have hlo : (setC st y 0).listOf k = st.listOf k := rfl
        refine fr_shut (a := a) (CV := CV) (CC := CC') (rs := rs') ?_ ?_ wf
        · unfold backS
          rw [hlo]
          split
          · rename_i hb; rw [if_pos hb] at S2; exact S2
          · rename_i hb; rw [if_neg hb] at S2; exact S2
        · unfold backS
          rw [hlo]
          split
          · rename_i hb; rw [if_pos hb] at hl2; exact hl2
          · rename_i hb; rw [if_neg hb] at hl2; exact hl2
  · have ed : decide (0 ≤ k ∧ k < (st.harts : Int)) = false := decide_eq_false hk
    simp (disch := omega) only [i, sh, sh2, ed]
    rw [if_neg hk]
    exact ⟨rfl, fr_shut Sp hl w⟩
end
end Go.Proofs.Ytfbagndfifibiaa

namespace Go.Proofs.Ytfbagndfifibiaa
open Go.ChangeShapes Go.WideShapes Go.ChangeAt Go.RowKit Go.Lm
set_option linter.unusedSimpArgs false
set_option linter.unusedVariables false
set_option maxRecDepth 10000
section
variable {F : Nat → Prop} {g h h' : LHeap} {x m a k c : Nat} {cs : List LV} {CV CC : LV} {counts common bs bs' : List Int} {rs : List FX} {r : FX} {Zs : List Thing} {st : FSt} {S : Nat → Prop} {first : Int} {harts : Nat} {Ls : List LV} {V U : LV} {l l2 : List Int}
theorem append_full {X : Type} {E : Enc X} {n bytes off : Nat} {l m : List X} {vs : List LV} {own : Own} (R : Row g (.slice a off n (.ex n)) E l) (hl : l.length = n) (hg : g.get a = some (.cells vs own)) (RU : Row g U E m) (hm : m ≠ []) (hb : (l.length + m.length) * bytes * 2 ≤ 2 ^ 48 ∨ ((l.length + m.length) * 5 + 2048) * bytes ≤ 2 ^ 50) :
    appendL E.e bytes (.slice a off n (.ex n)) U g = some (.slice g.next 0 (n + m.length) (.op E.e), g.alloc (.cells (l.flatMap E.f ++ m.flatMap E.f) .op)) ∧ Vec E g.next (g.alloc (.cells (l.flatMap E.f ++ m.flatMap E.f) .op)) (.slice g.next 0 (n + m.length) (.op E.e)) (l ++ m) ∧ Mine (g.alloc (.cells (l.flatMap E.f ++ m.flatMap E.f) .op)) (.slice g.next 0 (n + m.length) (.op E.e)) := by
  have hm0 : m.length ≠ 0 := fun h => hm (List.length_eq_zero_iff.1 h)
  have hfl : (l ++ m).flatMap E.f = l.flatMap E.f ++ m.flatMap E.f := by simp
  refine ⟨?_, ⟨?_, ⟨rfl, _, get_alloc_eq _ _⟩, fun b hb => ?_⟩, ⟨_, .op, get_alloc_eq _ _, by decide⟩⟩
  · have e1 := RU.src
    have e2 := R.src
    have hs : (LV.slice a off n (.ex n)).isStr = false := rfl
    simp only [appendL, e1, e2, hs, hg]
    rw [if_neg (by decide), if_neg hm0, if_neg (fun h => h hb), if_neg (by omega)]
  · refine Row.of (get_alloc_eq _ _) (by rw [List.length_append, hl]) ?_ ?_
    · rw [List.drop_zero, ← hfl, List.take_of_length_le (by rw [flat_len]; exact Nat.le_refl _)]
    · rw [← hfl, flat_len, Nat.zero_add]; exact Nat.le_refl _
  · cases hb
    exact ⟨Nat.le_refl _, Nat.lt_succ_self _⟩
end
end Go.Proofs.Ytfbagndfifibiaa

namespace Go.Proofs.Ytfbagndfifibiaa
open Go.ChangeShapes Go.WideShapes Go.ChangeAt Go.RowKit Go.Lm
set_option linter.unusedSimpArgs false
set_option linter.unusedVariables false
set_option maxRecDepth 10000
def cellOr (V : LV) : LV := if V.cell then V else .nils
theorem cellOr_cell (V : LV) : (cellOr V).cell = true := by
  unfold cellOr
  split
  · assumption
  · rfl
theorem cellOr_eq {V : LV} (h : V.cell = true) : cellOr V = V := if_pos h
def slE : Enc LV := ⟨fun V => [cellOr V], 1, fun _ => rfl, fun V v h => by
  simp only [List.mem_cons, List.not_mem_nil, or_false] at h
  subst h; exact cellOr_cell V, by decide⟩
section
variable {F : Nat → Prop} {g h h' : LHeap} {x m a k c : Nat} {cs : List LV} {CV CC : LV} {counts common bs bs' : List Int} {rs : List FX} {r : FX} {Zs : List Thing} {st : FSt} {S : Nat → Prop} {first : Int} {harts : Nat} {Ls : List LV} {V U : LV} {l l2 : List Int}
theorem cut60 (x n : Nat) (hn : n ≤ 8) (h1 : 1 ≤ n) (lim : Nat) : cutT Try.prog 70 (.ptr x 4) none (some (.int .i64 (n : Int))) (some (.int .i64 (n : Int))) lim = some (.slice x 4 n (.ex n)) := by
  have e : cutT Try.prog 70 (.ptr x 4) none (some (.int .i64 (n : Int))) (some (.int .i64 (n : Int))) lim = if 0 ≤ (0 : Int) ∧ (0 : Int) ≤ n ∧ (n : Int) ≤ n ∧ (n : Int) ≤ (8 : Nat) ∧ (true = true → true = true) then
      some (.slice x (if (n : Int) = 0 then 4 else 4 + (0 : Int).toNat * 1) ((n : Int) - 0).toNat (.ex ((n : Int) - 0).toNat)) else none := nr (by kernel_rfl)
  rw [e, if_pos ⟨by omega, by omega, by omega, by omega, fun h => h⟩, if_neg (by omega)]
  simp
theorem mk50 {n : Nat} (hn : n ≤ 2 ^ 40) (h : LHeap) : makeSliceL Try.prog 22 (i n) (i n) h = some (.slice h.next 0 n (.ex n), h.alloc (.cells ((List.replicate n (0 : Int)).flatMap intE.f) .ex)) := by
  have e : makeSliceL Try.prog 22 (i n) (i n) h = if 0 ≤ (n : Int) ∧ (n : Int) ≤ n ∧ (8 : Int) * n ≤ 2 ^ 48 ∧ (n : Int) < 2 ^ 62 ∧ (i 0).cells.length = 1 ∧ (i 0).cellsOK = true then
            some (.slice h.next 0 (n : Int).toNat (.ex (n : Int).toNat), h.alloc (.cells (List.replicate (n : Int).toNat (i 0).cells).flatten .ex)) else none := nr (by kernel_rfl)
  rw [e, if_pos ⟨by omega, by omega, by omega, by omega, rfl, rfl⟩]
  simp only [Int.toNat_natCast]
  have e2 : (List.replicate n (i 0).cells).flatten = (List.replicate n (0 : Int)).flatMap intE.f := by
    clear e hn
    induction n with
    | zero => rfl
    | succ n ih => rw [List.replicate_succ, List.flatten_cons, ih, List.replicate_succ, List.flatMap_cons]; rfl
  rw [e2]
/-- A new row of zeros. -/
theorem Sep.zeros {Ts : List Thing} (S : Sep F g h Ts) (n : Nat) : Sep F g (h.alloc (.cells ((List.replicate n (0 : Int)).flatMap intE.f) .ex)) (Ts ++ [Thing.vec intE (.slice h.next 0 n (.ex n)) (List.replicate n 0)]) := by
  refine S.vec _ (Row.of (get_alloc_eq _ _) (by simp) ?_ ?_) ⟨Nat.le_refl _, fun hh => by omega⟩ ⟨_, .ex, get_alloc_eq _ _, by decide⟩ (Fr.alloc _ _) fun b hb => ?_
  · rw [List.drop_zero, List.take_of_length_le (by rw [flat_len]; exact Nat.le_refl _)]
  · rw [flat_len]; omega
  · cases hb; exact ⟨Nat.le_refl _, Nat.lt_succ_self _⟩
/-- One number of a row is turned. -/
theorem Sep.stn {Ts : List Thing} (Sp : Sep F g h Ts) (q : Nat) (hq : Ts[q]? = some (Thing.vec intE V l)) {j : Nat} (hj : j < l.length) (v : Int) : ∃ b off h', ixAddrL none 1 V (.int .i64 (j : Int)) = some (.ptr b off) ∧ (∀ w, l[j]? = some w → cellO none off (h.get b) = some (.int .i64 w)) ∧ storeV 1 (.ptr b off) (.int .i64 v) h = some h' ∧ Sep F g h' (Ts.set q (Thing.vec intE V (l.set j v))) := by
  obtain ⟨b, off, h', e1, e2, S', _⟩ := Sp.stf q hq (k := j) (j := 0) v (v := i v) rfl (List.getElem?_eq_getElem hj) (by decide) rfl
  have R := Sp.row q hq
  have := R.ix (k := .i64) hj
  rw [e1] at this
  refine ⟨b, off, h', this, fun w hw => ?_, e2, S'⟩
  obtain ⟨b', off', e3, e4⟩ := at_ix R hj w hw
  have he : intE.e = 1 := rfl
  rw [he] at this
  rw [e3] at this
  cases this
  exact e4
/-- The lists that Right goes over. -/
def frL (harts : Nat) (rs : List FX) (CC : LV) (common : List Int) : List FX := rs.take harts ++ [⟨CC, common⟩]
theorem frL_row {j : Nat} {f : FX} (Sp : Sep F g h (FrG x m a cs CV counts CC common bs rs ++ Zs)) (hj : (frL harts rs CC common)[j]? = some f) : Row h f.V intE f.l := by
  unfold frL at hj
  rw [List.getElem?_append] at hj
  split at hj
  · rw [List.getElem?_take] at hj
    split at hj
    · exact fr_row Sp hj
    · cases hj
  · rw [List.getElem?_singleton] at hj
    split at hj
    · cases hj; exact fr_cc Sp
    · cases hj
theorem flat_nil {ls : List (List Int)} (h : ∀ l ∈ ls, l = []) : ls.flatten = [] := by
  induction ls with
  | nil => rfl
  | cons a ls ih =>
    rw [List.flatten_cons, h a (by simp), List.nil_append]
    exact ih fun l hl => h l (by simp [hl])
theorem frL_all (hl : rs.map (·.l) = st.lists) (w : FWf st) : ((frL st.harts rs CC st.common).map (·.l)).flatten = st.all := by
  unfold frL FSt.all
  rw [List.map_append, List.map_take, hl, List.flatten_append]
  have e : st.lists.flatten = (st.lists.take st.harts).flatten := by
    conv => lhs; rw [← List.take_append_drop st.harts st.lists]
    rw [List.flatten_append, flat_nil (ls := st.lists.drop st.harts), List.append_nil]
    intro l hl
    obtain ⟨j, hj⟩ := List.getElem?_of_mem hl
    rw [List.getElem?_drop] at hj
    have h8 := w.l8
    have := (List.getElem?_eq_some_iff.1 hj).1
    have := w.le (st.harts + j) (by omega) (by omega)
    rw [hj] at this
    exact Option.some.inj this
  rw [e]
  simp
end
end Go.Proofs.Ytfbagndfifibiaa

namespace Go.Proofs.Ytfbagndfifibiaa
open Go.ChangeShapes Go.WideShapes Go.ChangeAt Go.RowKit Go.Lm
set_option linter.unusedSimpArgs false
set_option linter.unusedVariables false
set_option maxRecDepth 10000
section
variable {F : Nat → Prop} {g h h' : LHeap} {x m a k c : Nat} {cs : List LV} {CV CC : LV} {counts common bs bs' : List Int} {rs : List FX} {r : FX} {Zs : List Thing} {st : FSt} {S : Nat → Prop} {first : Int} {harts : Nat} {Ls : List LV} {V U : LV} {l l2 : List Int}
theorem frT_len (h8 : rs.length = 8) : (FrT x m a first harts CV counts CC common bs rs).length = 13 := by simp [FrG, h8]
theorem zat {Ts : List Thing} (n : Nat) (hn : Ts.length = n) (Zs : List Thing) (j : Nat) : (Ts ++ Zs)[n + j]? = Zs[j]? := by
  rw [List.getElem?_append_right (by omega)]
  congr 1
  omega
theorem zset {Ts : List Thing} (n : Nat) (hn : Ts.length = n) (Zs : List Thing) (j : Nat) (T : Thing) : (Ts ++ Zs).set (n + j) T = Ts ++ Zs.set j T := by
  rw [List.set_append_right _ _ (by omega)]
  congr 2
  omega
theorem zer {Ts : List Thing} (n : Nat) (hn : Ts.length = n) (Zs : List Thing) (j : Nat) : (Ts ++ Zs).eraseIdx (n + j) = Ts ++ Zs.eraseIdx j := by
  rw [List.eraseIdx_append_of_length_le (by omega)]
  congr 2
  omega
/-- How a place is counted. -/
def Marks (n : Nat) (pl : List Int) (p : Nat → Int) : Prop := pl.length = n ∧ ∀ q, q < n → pl[q]? = some (p q)
theorem Marks.set {n : Nat} {pl : List Int} {p p' : Nat → Int} (M : Marks n pl p) {j : Nat} (hj : j < n) (h : ∀ q, q < n → p' q = if q = j then p j + 1 else p q) : Marks n (pl.set j (p j + 1)) p' := by
  refine ⟨by simpa using M.1, fun q hq => ?_⟩
  have ml := M.1
  rw [h q hq]
  by_cases e : q = j
  · subst e; rw [List.getElem?_set_self (by omega), if_pos rfl]
  · rw [List.getElem?_set_ne (Ne.symm e), if_neg e]; exact M.2 q hq
theorem Marks.congr {n : Nat} {pl : List Int} {p p' : Nat → Int} (M : Marks n pl p) (h : ∀ q, q < n → p' q = p q) : Marks n pl p' := ⟨M.1, fun q hq => by rw [h q hq]; exact M.2 q hq⟩
def usedM (counts : List Int) (k q : Nat) : Int := if q < k ∧ 0 < (counts[q]?).getD 0 then 1 else 0
theorem row_lists (Sp : Sep F g h (FrT x m a first harts CV counts CC common bs rs ++ Zs)) (h8 : rs.length = 8) (hh : harts ≤ 8) : Row h (.slice x 4 harts (.ex harts)) slE ((rs.take harts).map (·.V)) := by
  have hlen : ((rs.take harts).map (·.V)).length = harts := by simp; omega
  refine Row.of (fr_x Sp) hlen.symm ?_ (by rw [hlen, frC_len, List.length_map]; show 4 + harts * 1 ≤ _; omega)
  have e : (List.drop 4 (frC m first harts CV (rs.map (·.V)) CC)) = rs.map (·.V) ++ [CC] := rfl
  have he : slE.e = 1 := rfl
  rw [e, hlen, he, Nat.mul_one, List.take_append_of_le_length (by rw [List.length_map]; omega)]
  have hc : ∀ f ∈ rs.take harts, slE.f f.V = [f.V] := fun f hf => by
    obtain ⟨j, hj⟩ := List.getElem?_of_mem (List.mem_of_mem_take hf)
    exact congrArg (· :: []) (cellOr_eq (fr_row Sp hj).cell)
  rw [← List.map_take]
  generalize rs.take harts = fs at hc
  induction fs with
  | nil => rfl
  | cons f fs ih =>
    rw [List.map_cons, List.flatMap_cons, hc f (by simp), ← ih fun f hf => hc f (by simp [hf])]
    rfl
theorem zeros_any : ((zerosB 256).any fun x => x != 0) = false := by
  rw [List.any_eq_false]
  intro y hy
  rw [(List.mem_replicate.1 hy).2]
  simp
theorem frL_sub {j e : Nat} {f : FX} (hj : (frL harts rs CC common)[j]? = some f) : ((((frL harts rs CC common).take j).map (·.l)).flatten ++ f.l.take e).Sublist ((frL harts rs CC common).map (·.l)).flatten := by
  conv => rhs; rw [← List.take_append_drop j (frL harts rs CC common)]
  obtain ⟨hl, he⟩ := List.getElem?_eq_some_iff.1 hj
  rw [List.map_append, List.flatten_append, List.drop_eq_getElem_cons hl, he, List.map_cons, List.flatten_cons]
  exact (List.Sublist.refl _).append ((List.take_sublist _ _).trans (List.sublist_append_left _ _))
theorem flat_step {j : Nat} {f : FX} {fs : List FX} (hj : fs[j]? = some f) : ((fs.take (j + 1)).map (·.l)).flatten = ((fs.take j).map (·.l)).flatten ++ f.l := by
  rw [List.take_succ, hj]
  simp
theorem take_step {l : List Int} {e : Nat} {y : Int} (h : l[e]? = some y) : l.take (e + 1) = l.take e ++ [y] := by
  rw [List.take_succ, h]; rfl
abbrev RZ (x c1 t3 b0 : Nat) (PV CC LL : LV) (pl : List Int) (ll : List LV) : List Thing := [Thing.cells c1 [.ptr x 0], Thing.vec intE PV pl, Thing.cells t3 [PV], Thing.cells b0 [CC], Thing.vec slE LL ll]
end
end Go.Proofs.Ytfbagndfifibiaa

namespace Go.Proofs.Ytfbagndfifibiaa
open Go.ChangeShapes Go.WideShapes Go.ChangeAt Go.RowKit Go.Lm
set_option linter.unusedSimpArgs false
set_option linter.unusedVariables false
set_option maxRecDepth 10000
section
variable {F : Nat → Prop} {g h h' : LHeap} {x m a k c : Nat} {cs : List LV} {CV CC : LV} {counts common bs bs' : List Int} {rs : List FX} {r : FX} {Zs : List Thing} {st : FSt} {S : Nat → Prop} {first : Int} {harts : Nat} {Ls : List LV} {V U : LV} {l l2 : List Int}
theorem cut_max {C : List Int} {l : List FX} {j : Nat} (h : l.length = j) : l.take j = l := List.take_of_length_le (by omega)
end
end Go.Proofs.Ytfbagndfifibiaa

namespace Go.Proofs.Ytfbagndfifibiaa
open Go.ChangeShapes Go.WideShapes Go.ChangeAt Go.RowKit Go.Lm
set_option linter.unusedSimpArgs false
set_option linter.unusedVariables false
set_option maxRecDepth 10000
section
variable {F : Nat → Prop} {g h h' : LHeap} {x m a k c : Nat} {cs : List LV} {CV CC : LV} {counts common bs bs' : List Int} {rs : List FX} {r : FX} {Zs : List Thing} {st : FSt} {S : Nat → Prop} {first : Int} {harts : Nat} {Ls : List LV} {V U : LV} {l l2 : List Int}
theorem usedM_skip {k : Nat} {n : Int} (hk : counts[k]? = some n) (hn : ¬ 0 < n) (q : Nat) : usedM counts (k + 1) q = usedM counts k q := by
  unfold usedM
  by_cases e : q = k
  · subst e
    rw [hk, if_neg (by simp; omega), if_neg (by omega)]
  · have : q < k + 1 ↔ q < k := by omega
    simp only [this]
theorem usedM_step {k : Nat} {n : Int} (hk : counts[k]? = some n) (hn : 0 < n) (q : Nat) : usedM counts (k + 1) q = if q = k then usedM counts k k + 1 else usedM counts k q := by
  unfold usedM
  by_cases e : q = k
  · subst e
    rw [if_pos rfl, hk, if_pos ⟨by omega, by simpa using hn⟩, if_neg (by omega)]; rfl
  · have : q < k + 1 ↔ q < k := by omega
    simp only [this, if_neg e]
end
end Go.Proofs.Ytfbagndfifibiaa

namespace Go.Proofs.Ytfbagndfifibiaa
open Go.ChangeShapes Go.WideShapes Go.ChangeAt Go.RowKit Go.Lm
set_option linter.unusedSimpArgs false
set_option linter.unusedVariables false
set_option maxRecDepth 10000
def zeroAll (bs : List Int) (first : Int) (n : Nat) : List Int := (List.range n).foldl (fun bs k => zeroF bs (first + (k : Nat))) bs
theorem zeroAll_succ (bs : List Int) (first : Int) (n : Nat) : zeroAll bs first (n + 1) = zeroF (zeroAll bs first n) (first + n) := by simp [zeroAll, List.range_succ]
theorem zeroAll_len (bs : List Int) (first : Int) : ∀ n, (zeroAll bs first n).length = bs.length
  | 0 => rfl
  | n + 1 => by rw [zeroAll_succ, zeroF_len, zeroAll_len bs first n]
theorem frameIn_len {bs bs' : List Int} (h : bs'.length = bs.length) (y : Int) : frameIn bs' y ↔ frameIn bs y := by unfold frameIn; rw [h]
theorem zeroAll_at {bs : List Int} {first : Int} (f0 : 0 ≤ first) : ∀ n : Nat, first + (n : Int) ≤ ((bs.length / 256 : Nat) : Int) → ∀ y, first ≤ y → y < first + n → frameB (zeroAll bs first n) y = zerosB 256
  | 0, _, y, h1, h2 => by omega
  | n + 1, hn, y, h1, h2 => by
    have hl := zeroAll_len bs first n
    rw [zeroAll_succ]
    have hin : ∀ z, first ≤ z → z < first + (n + 1 : Nat) → frameIn (zeroAll bs first n) z := fun z k1 k2 => (frameIn_len hl z).2 ⟨by omega, by omega⟩
    by_cases e : y = first + n
    · subst e; exact frameB_zeroed (hin _ (by omega) (by omega))
    · rw [frameB_zero (hin _ (by omega) (by omega)) (hin y h1 h2) e]
      exact zeroAll_at f0 n (by omega) y h1 (by omega)
def riseL (first : Int) (n : Nat) : List Int := (List.range n).map fun k => first + (k : Nat)
theorem riseL_succ (first : Int) (n : Nat) : riseL first (n + 1) = riseL first n ++ [first + n] := by simp [riseL, List.range_succ]
theorem riseL_mem (first : Int) (n : Nat) (y : Int) : y ∈ riseL first n ↔ first ≤ y ∧ y < first + n := by
  unfold riseL
  rw [List.mem_map]
  constructor
  · rintro ⟨k, hk, rfl⟩
    rw [List.mem_range] at hk
    omega
  · intro ⟨h1, h2⟩
    exact ⟨(y - first).toNat, List.mem_range.2 (by omega), by omega⟩
theorem riseL_pw (first : Int) : ∀ n, (riseL first n).Pairwise (· < ·)
  | 0 => List.Pairwise.nil
  | n + 1 => by
    rw [riseL_succ, List.pairwise_append]
    refine ⟨riseL_pw first n, List.pairwise_singleton _ _, fun y hy z hz => ?_⟩
    rw [riseL_mem] at hy
    rw [List.mem_singleton.1 hz]; omega
def newS (first : Int) (n harts : Nat) (bs : List Int) : FSt := ⟨first, harts, List.replicate n 0, List.replicate 8 [], riseL first n, zeroAll bs first n⟩
theorem used_rep : ∀ n, usedL (List.replicate n 0) = 0
  | 0 => rfl
  | n + 1 => by have := used_rep n; simpa [List.replicate_succ, usedL] using this
theorem new_wf {first : Int} {n harts : Nat} {bs : List Int} (h1 : 1 ≤ harts) (h8 : harts ≤ 8) (n1 : 1 ≤ n) (f0 : 0 ≤ first) (fit : first + n ≤ ((bs.length / 256 : Nat) : Int)) (b1 : bs.length ≤ 1048576) (b2 : 256 ≤ bs.length) (b3 : bs.length % 256 = 0) : FWf (newS first n harts bs) := by
  have hl := zeroAll_len bs first n
  have hall : (newS first n harts bs).all = riseL first n := by unfold FSt.all newS; simp
  have hin : ∀ y, (newS first n harts bs).inR y ↔ first ≤ y ∧ y < first + n := fun y => by unfold FSt.inR newS; simp
  have hc : ∀ y, (newS first n harts bs).cnt y = 0 := fun y => by
    unfold FSt.cnt
    split
    · show (((List.replicate n (0 : Int)))[_]?).getD 0 = 0
      rw [List.getElem?_replicate]
      split <;> rfl
    · rfl
  refine ⟨h1, h8, by simp [newS], fun k _ hk8 => ?_, f0, by simpa [newS] using n1, ?_, ?_, ?_, ?_, fun c hc => ?_, fun y => ?_, ?_, ?_, fun y hy => ?_⟩
  · show (List.replicate 8 ([] : List Int))[k]? = _
    rw [List.getElem?_replicate, if_pos hk8]
  · show (zeroAll bs first n).length ≤ _; rw [hl]; exact b1
  · show _ ≤ (zeroAll bs first n).length; rw [hl]; exact b2
  · show (zeroAll bs first n).length % 256 = 0; rw [hl]; exact b3
  · show first + ((List.replicate n (0 : Int)).length : Int) ≤ (((zeroAll bs first n).length / 256 : Nat) : Int)
    rw [hl, List.length_replicate]; exact fit
  · have : c ∈ List.replicate n (0 : Int) := hc
    rw [(List.mem_replicate.1 this).2]; omega
  · rw [hall]
    have nd : (riseL first n).Nodup := (riseL_pw first n).imp fun h e => by omega
    by_cases h : first ≤ y ∧ y < first + n
    · rw [if_pos ⟨(hin y).2 h, hc y⟩]
      have hm := (riseL_mem first n y).2 h
      have h2 := List.count_pos_iff.2 hm
      have h3 := List.nodup_iff_count.1 nd y
      omega
    · rw [if_neg fun k => h ((hin y).1 k.1)]
      exact List.count_eq_zero_of_not_mem fun k => h ((riseL_mem first n y).1 k)
  · show (riseL first n).length + (List.replicate 8 ([] : List Int)).flatten.length + usedL (List.replicate n 0) = (List.replicate n (0 : Int)).length
    rw [used_rep]
    simp [riseL]
  · exact (riseL_pw first n).imp fun h => by simp; omega
  · rw [hall, riseL_mem] at hy
    exact zeroAll_at f0 n fit y hy.1 hy.2
def newOk (frames first count harts : Int) : Prop := 1 ≤ harts ∧ harts ≤ 8 ∧ 1 ≤ count ∧ 0 ≤ first ∧ first + count ≤ frames
section
variable {F : Nat → Prop} {g h h' : LHeap} {x m a k c : Nat} {cs : List LV} {CV CC : LV} {counts common bs bs' : List Int} {rs : List FX} {r : FX} {Zs : List Thing} {st : FSt} {S : Nat → Prop} {Ls : List LV} {V U : LV} {l l2 : List Int}
theorem frNew_nil (first count harts : Int) : Ok Try.prog 11 [.nilp, i first, i count, i harts] g fun v h => v = .tuple [.nilp, i 1] ∧ h = g := by
  refine ok11 fun _ _ => ?_
  simp (disch := omega) only [F11, J11_0, i, sh, sh2, nil_p ph_tp true]
  exact ⟨trivial, trivial⟩
theorem frNew_no (M : MemAt g m a bs) {first count harts : Int} (f1 : first < 9223372036854775808) (c1 : count < 9223372036854775808) (hn : ¬ newOk ((bs.length / 256 : Nat) : Int) first count harts) : Ok Try.prog 11 [.ptr m 0, i first, i count, i harts] g fun v h => v = .tuple [.nilp, i 1] ∧ h = g := by
  refine ok11 fun _ _ => ?_
  have le := M.le
  unfold newOk at hn
  by_cases h1 : harts < 1
  · simp (disch := omega) only [F11, J11_0, i, sh, sh2, shi, dec, nil_p ph_tp true]
    exact ⟨trivial, trivial⟩
  by_cases h2 : 8 < harts
  · simp (disch := omega) only [F11, J11_0, i, sh, sh2, shi, dec, nil_p ph_tp true]
    exact ⟨trivial, trivial⟩
  by_cases h3 : count < 1
  · simp (disch := omega) only [F11, J11_0, i, sh, sh2, shi, dec, nil_p ph_tp true]
    exact ⟨trivial, trivial⟩
  by_cases h4 : first < 0
  · simp (disch := omega) only [F11, J11_0, i, sh, sh2, shi, dec, nil_p ph_tp true]
    exact ⟨trivial, trivial⟩
  simp (disch := omega) only [F11, J11_0, i, sh, sh2, shi, dec, nil_p ph_tp true]
  refine (Frames_ok M).mono ?_
  rintro _ g ⟨rfl, rfl⟩
  by_cases h5 : ((bs.length / 256 : Nat) : Int) < first
  · simp (disch := omega) only [i, sh, sh2, shi, dec]
    exact ⟨trivial, trivial⟩
  simp (disch := omega) only [i, sh, sh2, shi, dec]
  refine (Frames_ok M).mono ?_
  rintro _ g ⟨rfl, rfl⟩
  simp (disch := omega) only [i, sh, sh2, shi, dec]
  exact ⟨trivial, trivial⟩
theorem bl62 (m n : Nat) (first : Int) (harts : Int) (b : Nat) : buildL Try.prog 72 [(0, .ptr m 0), (1, i first), (2, i harts), (3, .slice b 0 n (.ex n))] = some (.agg [.ptr m 0, i first, i harts, .slice b 0 n (.ex n), .nils, .nils, .nils, .nils, .nils, .nils, .nils, .nils, .nils]) := nr (by kernel_rfl)
theorem perm5 {A : Type} (a m v x c : A) : [a, m, v, x, c].Perm [x, v, c, m, a] := by
  have h1 : [a, m, v, x, c].Perm [c, x, v, m, a] := (List.reverse_perm [a, m, v, x, c]).symm
  have h2 : [c, x, v, m, a].Perm [x, c, v, m, a] := List.Perm.swap _ _ _
  exact (h1.trans h2).trans (.cons x (List.Perm.swap _ _ _))
theorem frNew_ok {n harts : Nat} {first : Int} (Sp : Sep F g g (memTs m a bs)) (b1 : bs.length ≤ 1048576) (b2 : 256 ≤ bs.length) (b3 : bs.length % 256 = 0) (hn : newOk ((bs.length / 256 : Nat) : Int) first n harts) :
    Ok Try.prog 11 [.ptr m 0, i first, i n, i harts] g fun v h => ∃ x S', v = .tuple [.ptr x 0, i 0] ∧ Sep F g h [FBox x m S' (newS first n harts bs)] := by
  have M : MemAt g m a bs := ⟨Sp.cell 1 rfl, Sp.cell 0 rfl, b1, b2, b3⟩
  obtain ⟨k1, k2, k3, k4, k5⟩ := hn
  refine ok11 fun _ _ => ?_
  simp (disch := omega) only [F11, J11_0, i, sh, sh2, shi, dec, nil_p ph_tp true]
  refine (Frames_ok M).mono ?_
  rintro _ g ⟨rfl, rfl⟩
  simp (disch := omega) only [i, sh, sh2, shi, dec]
  refine (Frames_ok M).mono ?_
  rintro _ g ⟨rfl, rfl⟩
  have hmk := mk50 (n := n) (by omega) g
  simp only [i] at hmk
  have S1 := Sep.zeros Sp n
  have hb := bl62 m n first harts g.next
  simp only [i] at hb
  generalize e1 : g.alloc (.cells ((List.replicate n (0 : Int)).flatMap intE.f) .ex) = h1 at *
  have hnw : newL (.agg [.ptr m 0, .int .i64 first, .int .i64 harts, .slice g.next 0 n (.ex n), .nils, .nils, .nils, .nils, .nils, .nils, .nils, .nils, .nils]) h1 = some (.ptr h1.next 0, h1.alloc (.cells [.ptr m 0, i first, i harts, .slice g.next 0 n (.ex n), .nils, .nils, .nils, .nils, .nils, .nils, .nils, .nils, .nils] .ex)) := new_agg _ _ (by intro v hv; simp at hv; rcases hv with rfl | rfl | rfl | rfl | rfl <;> rfl)
  have S2 := S1.new [.ptr m 0, i first, i harts, .slice g.next 0 n (.ex n), .nils, .nils, .nils, .nils, .nils, .nils, .nils, .nils, .nils]
  generalize hx : h1.next = x at *
  generalize e2 : h1.alloc (.cells [.ptr m 0, i first, i harts, .slice g.next 0 n (.ex n), .nils, .nils, .nils, .nils, .nils, .nils, .nils, .nils, .nils] .ex) = h2 at *
  generalize hCV : LV.slice g.next 0 n (.ex n) = CV at *
  have S3 := Sep.nilsL (F := F) intE (List.replicate 8 ()) (S2.nils intE)
  have S4 : Sep F g h2 (FrT x m a first harts CV (List.replicate n 0) .nils (riseL first 0) (zeroAll bs first 0) (List.replicate 8 ⟨.nils, []⟩)) :=
    S3.perm ((perm5 _ _ _ _ _).append_right _)
  simp (disch := omega) only [i, sh, sh2, shi, dec, hmk, J11_1, J11_2, J11_4, hb, hnw]
  refine loop_n (fun nn s h => ∃ (k : Nat) (CC : LV), s = i (first + (k : Nat)) ∧ k + nn = n ∧ Sep F g h (FrT x m a first harts CV (List.replicate n 0) CC (riseL first k) (zeroAll bs first k) (List.replicate 8 ⟨.nils, []⟩))) (n := n) ⟨0, .nils, by simp, by omega, S4⟩ ?_
  rintro nn s h ⟨k, CC, rfl, hk, Sk⟩
  have hcl : (riseL first k).length = k := by simp [riseL]
  cases nn with
  | zero =>
    obtain rfl : k = n := by omega
    simp (disch := omega) only [L11_5, J11_3, i, sh, sh2, shi, dec]
    obtain ⟨S', Sb⟩ := Sep.boxed (Ts := []) (D := FD x m) (x := newS first k harts bs) Sk ⟨a, CV, CC, List.replicate 8 ⟨.nils, []⟩, rfl, by simp [newS], new_wf (by omega) (by omega) (by omega) k4 k5 b1 b2 b3⟩
    exact ⟨x, S', rfl, Sb⟩
  | succ nn =>
    have h8 : (List.replicate 8 (⟨.nils, []⟩ : FX)).length = 8 := by simp
    rw [← List.append_nil (FrT x m a first harts CV (List.replicate n 0) CC (riseL first k) (zeroAll bs first k) (List.replicate 8 ⟨.nils, []⟩))] at Sk
    have C := fr_fc Sk h8
    have c12 := C.c12
    obtain ⟨V', h5, happ, S5, cV⟩ := fr_pushc Sk (first + (k : Nat)) (by omega)
    have hbs := bs50_1 (first + (k : Nat)) h
    simp only [i] at hbs
    obtain ⟨h6, hst, S6⟩ := fr_stc S5 (by simp) (V := V') cV
    have hl := zeroAll_len bs first k
    simp (disch := omega) only [L11_5, i, sh, sh2, shi, dec, c12, hbs, happ, hst]
    refine (zero_ok (fr_m S6 (by rw [hl]; exact b1) (by rw [hl]; exact b2) (by rw [hl]; exact b3)) (first + (k : Nat))).mono ?_
    rintro _ h7 ⟨rfl, M7⟩
    have S7 := fr_mem S6 M7 (zeroF_len _ _)
    refine ⟨nn, by omega, k + 1, V', ?_, by omega, ?_⟩
    · simp only [LV.int.injEq, true_and]; omega
    · rw [riseL_succ, zeroAll_succ]
      rw [List.append_nil] at S7
      exact S7
end
end Go.Proofs.Ytfbagndfifibiaa
