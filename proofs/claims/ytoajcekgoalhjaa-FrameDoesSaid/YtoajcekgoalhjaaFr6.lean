/-
  frame, plain: what the calls make of the frames.
-/
import Derived.Test.YtoajcekgoalhjaaFr5
set_option linter.all false
namespace Go.Proofs.Ytoajcekgoalhjaa
open Go.ChangeShapes Go.WideShapes Go.ChangeAt Go.RowKit Go.Lm
set_option linter.unusedSimpArgs false
set_option maxRecDepth 10000
theorem count_set {y : Int} : ∀ {ls : List (List Int)} {k : Nat} {l : List Int} (l' : List Int), ls[k]? = some l → (ls.set k l').flatten.count y + l.count y = ls.flatten.count y + l'.count y
  | [], _, _, _, h => by simp at h
  | l0 :: ls, 0, l, l', h => by
    obtain rfl : l0 = l := by simpa using h
    simp only [List.set_cons_zero, List.flatten_cons, List.count_append]; omega
  | l0 :: ls, k + 1, l, l', h => by
    have := count_set (ls := ls) (k := k) l' (by simpa using h) (y := y)
    simp only [List.set_cons_succ, List.flatten_cons, List.count_append]; omega
theorem len_set : ∀ {ls : List (List Int)} {k : Nat} {l : List Int} (l' : List Int), ls[k]? = some l → (ls.set k l').flatten.length + l.length = ls.flatten.length + l'.length
  | [], _, _, _, h => by simp at h
  | l0 :: ls, 0, l, l', h => by
    obtain rfl : l0 = l := by simpa using h
    simp only [List.set_cons_zero, List.flatten_cons, List.length_append]; omega
  | l0 :: ls, k + 1, l, l', h => by
    have := len_set (ls := ls) (k := k) l' (by simpa using h)
    simp only [List.set_cons_succ, List.flatten_cons, List.length_append]; omega
theorem count_td (y : Int) (l : List Int) (n : Nat) : (l.take n).count y + (l.drop n).count y = l.count y := by
  conv => rhs; rw [← List.take_append_drop n l]
  rw [List.count_append]
theorem used_set : ∀ {l : List Int} {j : Nat} {c : Int} (c' : Int), l[j]? = some c → usedL (l.set j c') + (if 0 < c then 1 else 0) = usedL l + (if 0 < c' then 1 else 0)
  | [], _, _, _, h => by simp at h
  | c0 :: l, 0, c, c', h => by
    obtain rfl : c0 = c := by simpa using h
    simp only [List.set_cons_zero, usedL, List.filter_cons]
    by_cases h1 : 0 < c0 <;> by_cases h2 : 0 < c' <;> simp [h1, h2]
  | c0 :: l, j + 1, c, c', h => by
    have := used_set (l := l) (j := j) c' (by simpa using h)
    simp only [List.set_cons_succ, usedL, List.filter_cons] at *
    by_cases h1 : 0 < c0 <;> simp [h1] <;> omega
theorem frameB_len {bs : List Int} {y : Int} (h : frameIn bs y) : (frameB bs y).length = 256 := by
  have := frame_fit h
  unfold frameB
  rw [List.length_take, List.length_drop]; omega
theorem frameB_get {bs : List Int} {y : Int} {j : Nat} : (frameB bs y)[j]? = if j < 256 then bs[256 * y.toNat + j]? else none := by
  unfold frameB
  rw [List.getElem?_take]
  split
  · rw [List.getElem?_drop]
  · rfl
theorem frameB_apart {bs new : List Int} {off : Nat} {y : Int} (fit : off + new.length ≤ bs.length) (h : off + new.length ≤ 256 * y.toNat ∨ 256 * y.toNat + 256 ≤ off) : frameB (putB bs off new) y = frameB bs y := by
  apply List.ext_getElem?
  intro j
  rw [frameB_get, frameB_get]
  split
  · rw [putB_get fit, if_neg (by omega)]
  · rfl
theorem frameB_zero {bs : List Int} {y z : Int} (hy : frameIn bs y) (hz : frameIn bs z) (hne : z ≠ y) : frameB (zeroF bs y) z = frameB bs z := by
  unfold zeroF
  rw [if_pos hy]
  refine frameB_apart (by have := frame_fit hy; simpa [zerosB] using this) ?_
  have : (zerosB 256).length = 256 := by simp [zerosB]
  rw [this]
  unfold frameIn at hy hz
  omega
theorem frameB_zeroed {bs : List Int} {y : Int} (hy : frameIn bs y) : frameB (zeroF bs y) y = zerosB 256 := by
  have hl : (zerosB 256).length = 256 := by simp [zerosB]
  apply List.ext_getElem?
  intro j
  rw [frameB_get]
  unfold zeroF
  rw [if_pos hy]
  split
  · rw [putB_get (by rw [hl]; exact frame_fit hy), if_pos ⟨by omega, by omega⟩]
    congr 1; omega
  · rw [List.getElem?_eq_none (by omega)]
theorem FWf.frameIn {st : FSt} (w : FWf st) {y : Int} (h : st.inR y) : frameIn st.bs y := by
  have := w.fit; have := w.f0
  unfold FSt.inR at h
  exact ⟨by omega, by omega⟩
def fillS (st : FSt) (k : Nat) : FSt := { st with lists := (fillL st.lists st.harts k st.common).1, common := (fillL st.lists st.harts k st.common).2 }
/-- Where nothing is in the lists, nothing is free. -/
theorem rich_ne {st : FSt} (w : FWf st) (hf : st.freeN ≠ 0) (hc : st.common = []) : (((st.lists[rich st.lists st.harts]?).getD []) : List Int) ≠ [] := fun e => by
  have hm := rich_max st.lists st.harts
  rw [e] at hm
  apply hf
  unfold FSt.freeN
  rw [hc, List.length_nil, Nat.zero_add]
  have : ∀ l ∈ st.lists, l = [] := fun l hl => by
    obtain ⟨k, hk⟩ := List.getElem?_of_mem hl
    have h8 := w.l8
    have hkl := (List.getElem?_eq_some_iff.1 hk).1
    by_cases h : k < st.harts
    · have := hm k h
      rw [hk] at this
      exact List.length_eq_zero_iff.1 (by simpa using this)
    · have := w.le k (by omega) (by omega)
      rw [hk] at this
      exact Option.some.inj this
  have h2 : ∀ ls : List (List Int), (∀ l ∈ ls, l = []) → ls.flatten.length = 0 := fun ls => by
    induction ls with
    | nil => intro; rfl
    | cons a ls ih =>
      intro h
      rw [List.flatten_cons, h a (by simp), List.nil_append]
      exact ih fun l hl => h l (by simp [hl])
  exact h2 _ this
theorem getD_some {ls : List (List Int)} {k : Nat} (h : k < ls.length) : ls[k]? = some ((ls[k]?).getD []) := by
  rw [List.getElem?_eq_getElem h]; rfl
/-- What fill does. -/
theorem fill_said {st : FSt} (w : FWf st) {k : Nat} (hk : k < st.harts) (hl : st.lists[k]? = some []) (hf : st.freeN ≠ 0) :
    (∀ y, (fillS st k).all.count y = st.all.count y) ∧ (fillS st k).freeN = st.freeN ∧ (fillS st k).lists.length = 8 ∧ (∀ j : Nat, st.harts ≤ j → j < 8 → (fillS st k).lists[j]? = some []) ∧ (fillS st k).common.Pairwise (fun x y => decide (x ≤ y) = true) ∧ ∃ l, (fillS st k).lists[k]? = some l ∧ l ≠ [] := by
  have h8 := w.l8
  have hh := w.h8
  by_cases hc : st.common = []
  · have hne := rich_ne w hf hc
    have hr := rich_lt st.lists w.h1
    have hrs := getD_some (ls := st.lists) (k := rich st.lists st.harts) (by omega)
    generalize (st.lists[rich st.lists st.harts]?).getD [] = l at *
    have hkr : k ≠ rich st.lists st.harts := fun e => by rw [← e, hl] at hrs; exact hne (Option.some.inj hrs).symm
    have hlp : 0 < l.length := List.length_pos_iff.2 hne
    have e : fillS st k = { st with lists := (st.lists.set k (l.take ((l.length + 1) / 2))).set (rich st.lists st.harts) (l.drop ((l.length + 1) / 2)), common := [] } := by
      unfold fillS fillL
      rw [if_pos hc, hrs]
      rfl
    rw [e]
    have hrs' : (st.lists.set k (l.take ((l.length + 1) / 2)))[rich st.lists st.harts]? = some l := by rw [List.getElem?_set_ne hkr]; exact hrs
    refine ⟨fun y => ?_, ?_, by simp [h8], fun j hj hj8 => ?_, List.Pairwise.nil, l.take ((l.length + 1) / 2), ?_, ?_⟩
    · have c1 := count_set (y := y) (l.drop ((l.length + 1) / 2)) hrs'
      have c2 := count_set (y := y) (l.take ((l.length + 1) / 2)) hl
      have c3 := count_td y l ((l.length + 1) / 2)
      simp only [FSt.all, List.count_append, hc, List.count_nil] at *
      omega
    · have c1 := len_set (l.drop ((l.length + 1) / 2)) hrs'
      have c2 := len_set (l.take ((l.length + 1) / 2)) hl
      have c3 : (l.take ((l.length + 1) / 2)).length + (l.drop ((l.length + 1) / 2)).length = l.length := by rw [List.length_take, List.length_drop]; omega
      simp only [FSt.freeN, hc, List.length_nil] at *
      omega
    · rw [List.getElem?_set_ne (by omega), List.getElem?_set_ne (by omega)]
      exact w.le j hj hj8
    · rw [List.getElem?_set_ne (Ne.symm hkr), List.getElem?_set_self (by omega)]
    · intro e2
      have := congrArg List.length e2
      rw [List.length_take, List.length_nil] at this
      omega
  · have e : fillS st k = { st with lists := st.lists.set k (st.common.take 8), common := st.common.drop 8 } := by
      unfold fillS fillL
      rw [if_neg hc]
    rw [e]
    have hcp : 0 < st.common.length := List.length_pos_iff.2 hc
    refine ⟨fun y => ?_, ?_, by simp [h8], fun j hj hj8 => ?_, w.so.sublist (List.drop_sublist _ _), st.common.take 8, ?_, ?_⟩
    · have c2 := count_set (y := y) (st.common.take 8) hl
      have c3 := count_td y st.common 8
      simp only [FSt.all, List.count_append, List.count_nil] at *
      omega
    · have c2 := len_set (st.common.take 8) hl
      have c3 : (st.common.take 8).length + (st.common.drop 8).length = st.common.length := by rw [List.length_take, List.length_drop]; omega
      simp only [FSt.freeN, List.length_nil] at *
      omega
    · rw [List.getElem?_set_ne (by omega)]
      exact w.le j hj hj8
    · rw [List.getElem?_set_self (by omega)]
    · intro e2
      have := congrArg List.length e2
      rw [List.length_take, List.length_nil] at this
      omega
theorem fill_wf {st : FSt} (w : FWf st) {k : Nat} (hk : k < st.harts) (hl : st.lists[k]? = some []) (hf : st.freeN ≠ 0) : FWf (fillS st k) := by
  obtain ⟨h1, h2, h3, h4, h5, _⟩ := fill_said w hk hl hf
  refine ⟨w.h1, w.h8, h3, h4, w.f0, w.n1, w.b1, w.b2, w.b3, w.fit, w.cr, fun y => (h1 y).trans (w.I1 y), ?_, h5, fun y hy => w.z y ?_⟩
  · rw [h2]; exact w.I2
  · rw [← List.count_pos_iff] at *
    rw [← h1 y]; exact hy
end Go.Proofs.Ytoajcekgoalhjaa
