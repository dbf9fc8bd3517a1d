/-
  frame: what the frames stand for; the frames as things.
-/
import Derived.Test.YtoajcekgoalhjaaFr2
import Derived.Test.YtoajcekgoalhjaaFrQ
set_option linter.all false
namespace Go.Proofs.Ytoajcekgoalhjaa
open Go.ChangeShapes Go.WideShapes Go.ChangeAt Go.RowKit Go.Lm
set_option linter.unusedSimpArgs false
set_option maxRecDepth 10000
structure FSt where
  first : Int
  harts : Nat
  counts : List Int
  lists : List (List Int)
  common : List Int
  bs : List Int
def FSt.inR (st : FSt) (y : Int) : Prop := st.first ≤ y ∧ y < st.first + st.counts.length
instance (st : FSt) (y : Int) : Decidable (st.inR y) := by unfold FSt.inR; infer_instance
def FSt.cnt (st : FSt) (y : Int) : Int := if st.inR y then (st.counts[(y - st.first).toNat]?).getD 0 else 0
def FSt.all (st : FSt) : List Int := st.lists.flatten ++ st.common
def FSt.freeN (st : FSt) : Nat := st.common.length + st.lists.flatten.length
def FSt.isH (st : FSt) (k : Int) : Prop := 0 ≤ k ∧ k < st.harts
instance (st : FSt) (y : Int) : Decidable (st.isH y) := by unfold FSt.isH; infer_instance
def usedL (l : List Int) : Nat := (l.filter fun c => decide (0 < c)).length
structure FWf (st : FSt) : Prop where
  h1 : 1 ≤ st.harts
  h8 : st.harts ≤ 8
  l8 : st.lists.length = 8
  le : ∀ k : Nat, st.harts ≤ k → k < 8 → st.lists[k]? = some []
  f0 : 0 ≤ st.first
  n1 : 1 ≤ st.counts.length
  b1 : st.bs.length ≤ 1048576
  b2 : 256 ≤ st.bs.length
  b3 : st.bs.length % 256 = 0
  fit : st.first + st.counts.length ≤ ((st.bs.length / 256 : Nat) : Int)
  cr : ∀ c ∈ st.counts, 0 ≤ c ∧ c ≤ 1048576
  I1 : ∀ y, st.all.count y = if st.inR y ∧ st.cnt y = 0 then 1 else 0
  I2 : st.freeN + usedL st.counts = st.counts.length
  so : st.common.Pairwise fun x y => decide (x ≤ y) = true
  z : ∀ y ∈ st.all, frameB st.bs y = zerosB 256
theorem FWf.mem {st : FSt} (w : FWf st) {y : Int} (h : y ∈ st.all) : st.inR y ∧ st.cnt y = 0 := by
  have := w.I1 y
  have h2 := List.count_pos_iff.2 h
  by_cases h3 : st.inR y ∧ st.cnt y = 0
  · exact h3
  · rw [if_neg h3] at this; omega
theorem FWf.freeLe {st : FSt} (w : FWf st) : st.freeN ≤ 4096 := by
  have := w.I2; have := w.fit; have := w.b1; have := w.f0; omega
theorem len_flat_le {X : Type} {ls : List (List X)} {l : List X} (h : l ∈ ls) : l.length ≤ ls.flatten.length := by
  induction ls with
  | nil => cases h
  | cons a ls ih =>
    rw [List.flatten_cons, List.length_append]
    rcases List.mem_cons.1 h with rfl | h
    · omega
    · have := ih h; omega
theorem FWf.listLe {st : FSt} (w : FWf st) {k : Nat} {l : List Int} (h : st.lists[k]? = some l) : l.length ≤ 4096 := by
  have := w.freeLe
  have := len_flat_le (List.mem_of_getElem? h)
  unfold FSt.freeN at *
  omega
structure FX where
  V : LV
  l : List Int
def FX.T (r : FX) : Thing := Thing.vec intE r.V r.l
def frC (m : Nat) (first : Int) (harts : Nat) (CV : LV) (Ls : List LV) (CC : LV) : List LV := [.ptr m 0, i first, i harts, CV] ++ (Ls ++ [CC])
def FrG (x m a : Nat) (cs : List LV) (CV : LV) (counts : List Int) (CC : LV) (common : List Int) (bs : List Int) (rs : List FX) : List Thing :=
  [Thing.cells x cs, Thing.vec intE CV counts, Thing.vec intE CC common, Thing.cells m [.slice a 0 bs.length (.ex bs.length)], Thing.cells a (bs.map B8)] ++ rs.map FX.T
def FD (x m : Nat) (st : FSt) (Ts : List Thing) : Prop :=
  ∃ a CV CC rs, Ts = FrG x m a (frC m st.first st.harts CV (rs.map (·.V)) CC) CV st.counts CC st.common st.bs rs ∧ rs.map (·.l) = st.lists ∧ FWf st
abbrev FBox (x m : Nat) (S : Nat → Prop) (st : FSt) : Thing := Thing.box (FD x m) S st
section
variable {F : Nat → Prop} {g h h' : LHeap} {x m a k : Nat} {cs : List LV} {CV CC : LV} {counts common bs : List Int} {rs : List FX} {r : FX} {Zs : List Thing} {st : FSt} {S : Nat → Prop} {first : Int} {harts : Nat} {Ls : List LV} {V : LV}
theorem fr_at (hk : rs[k]? = some r) : (FrG x m a cs CV counts CC common bs rs ++ Zs)[5 + k]? = some (Thing.vec intE r.V r.l) := by
  have hl := (List.getElem?_eq_some_iff.1 hk).1
  unfold FrG
  rw [List.getElem?_append_left (by simp; omega), List.getElem?_append_right (by simp)]
  simp [hk, FX.T]
theorem fr_set (hk : k < rs.length) (V : LV) (l : List Int) : (FrG x m a cs CV counts CC common bs rs ++ Zs).set (5 + k) (Thing.vec intE V l) = FrG x m a cs CV counts CC common bs (rs.set k ⟨V, l⟩) ++ Zs := by
  unfold FrG
  rw [List.set_append_left _ _ (by simp; omega), List.set_append_right _ _ (by simp), List.map_set]
  congr 2
  simp [FX.T]
theorem frC_len : (frC m first harts CV Ls CC).length = 5 + Ls.length := by simp [frC]; omega
theorem frC_at (hk : Ls[k]? = some V) : (frC m first harts CV Ls CC)[4 + k]? = some V := by
  have hl := (List.getElem?_eq_some_iff.1 hk).1
  unfold frC
  rw [List.getElem?_append_right (by simp), List.getElem?_append_left (by simp; omega)]
  simpa using hk
theorem frC_set (hk : k < Ls.length) (V : LV) : (frC m first harts CV Ls CC).set (4 + k) V = frC m first harts CV (Ls.set k V) CC := by
  unfold frC
  rw [List.set_append_right _ _ (by simp), List.set_append_left _ _ (by simp; omega)]
  congr 2
  simp
theorem frC_c (h8 : Ls.length = 8) : (frC m first harts CV Ls CC)[12]? = some CC := by
  unfold frC
  rw [List.getElem?_append_right (by simp), List.getElem?_append_right (by simp; omega)]
  simp [h8]
theorem frC_setc (h8 : Ls.length = 8) (V : LV) : (frC m first harts CV Ls CC).set 12 V = frC m first harts CV Ls V := by
  unfold frC
  rw [List.set_append_right _ _ (by simp), List.set_append_right _ _ (by simp; omega)]
  simp [h8]
theorem fr_st (x0 : h.get x = some (.cells cs .ex)) (hk : k < cs.length) (cV : V.cell = true) : storeV 1 (.ptr x k) V h = some (h.set x (.cells (cs.set k V) .ex)) := by
  rw [store_o _ _ _ cV, x0, set_o, List.getElem?_eq_getElem hk]
  rfl
/-- The struct's words. -/
structure FC (h : LHeap) (x m : Nat) (first : Int) (harts : Nat) (CV CC : LV) : Prop where
  c0 : cellO none 0 (h.get x) = some (.ptr m 0)
  c1 : cellO none 1 (h.get x) = some (.int .i64 first)
  c2 : cellO none 2 (h.get x) = some (.int .i64 harts)
  c3 : cellO none 3 (h.get x) = some CV
  c12 : cellO none 12 (h.get x) = some CC
theorem FC.of (x0 : h.get x = some (.cells (frC m first harts CV Ls CC) .ex)) (h8 : Ls.length = 8) : FC h x m first harts CV CC := by
  refine ⟨?_, ?_, ?_, ?_, ?_⟩ <;> rw [x0, cell_o]
  · rfl
  · rfl
  · rfl
  · rfl
  · exact frC_c h8
theorem FC.list (x0 : h.get x = some (.cells (frC m first harts CV Ls CC) .ex)) (hk : Ls[k]? = some V) : cellO none (4 + k) (h.get x) = some V := by
  rw [x0, cell_o]; exact frC_at hk
theorem ix8 (hk : k < 8) : ixAddrL (some 8) 1 (.ptr x 4) (.int .i64 (k : Int)) = some (.ptr x (4 + k)) := by
  rw [ix_arr' _ _ hk, Nat.mul_one]
theorem fp_t : Try.prog.underlying 47 = some (.pointer 62) := by kernel_rfl
theorem made_ok (c : FC h x m first harts CV CC) : Ok Try.prog 54 [.ptr x 0] h fun v h' => v = .bool true ∧ h' = h := by
  refine ok54 fun _ _ => ?_
  have c0 := c.c0
  simp (disch := omega) only [F54, sh, sh2, nil_p fp_t true, nil_p ph_tp true, c0]
  exact ⟨trivial, trivial⟩
theorem isH_ok (c : FC h x m first harts CV CC) (k : Int) : Ok Try.prog 55 [.ptr x 0, i k] h fun v h' => v = .bool (decide (0 ≤ k ∧ k < harts)) ∧ h' = h := by
  refine ok55 fun _ _ => ?_
  have c2 := c.c2
  by_cases h0 : 0 ≤ k
  · simp (disch := omega) only [F55, i, sh, sh2, shi, dec, c2]
    exact ⟨by simp [h0], trivial⟩
  · simp (disch := omega) only [F55, i, sh, sh2, shi, dec, c2]
    exact ⟨by simp [h0], trivial⟩
def cntF (first : Int) (counts : List Int) (y : Int) : Int := if first ≤ y ∧ y < first + counts.length then (counts[(y - first).toNat]?).getD 0 else 0
theorem cnt_eq (st : FSt) (y : Int) : st.cnt y = cntF st.first st.counts y := rfl
theorem at_ix (R : Row h V intE counts) {j : Nat} (hj : j < counts.length) (c : Int) (hc : counts[j]? = some c) : ∃ a off, ixAddrL none 1 V (.int .i64 (j : Int)) = some (.ptr a off) ∧ cellO none off (h.get a) = some (.int .i64 c) := by
  obtain ⟨a, off, e, hf⟩ := R.fl hc
  have := R.ix (k := .i64) hj
  exact ⟨a, off, by rw [← e]; exact this, hf 0 _ rfl⟩
theorem count_ok (c : FC h x m first harts CV CC) (R : Row h CV intE counts) (hf : 0 ≤ first) (hf2 : first ≤ 4096) (hn : counts.length ≤ 4096) (y : Int) (y0 : -9223372036854775808 ≤ y) (y1 : y < 9223372036854775808) : Ok Try.prog 30 [.ptr x 0, i y] h fun v h' => v = i (cntF first counts y) ∧ h' = h := by
  refine ok30 fun _ _ => ?_
  simp (disch := omega) only [F30, J30_0]
  refine ⟨?_, trivial⟩
  refine (made_ok c).mono ?_
  rintro _ h ⟨rfl, rfl⟩
  have c1 := c.c1
  have c3 := c.c3
  have hl := R.len (P := Try.prog) ty50
  by_cases h1 : y < first
  · simp (disch := omega) only [i, sh, sh2, shi, dec, c1, c3, hl]
    exact ⟨by unfold cntF; rw [if_neg (by omega)], trivial⟩
  · by_cases h2 : (counts.length : Int) ≤ y - first
    · simp (disch := omega) only [i, sh, sh2, shi, dec, c1, c3, hl]
      exact ⟨by unfold cntF; rw [if_neg (by omega)], trivial⟩
    · obtain ⟨j, hj⟩ : ∃ j : Nat, y - first = j := ⟨(y - first).toNat, by omega⟩
      have hjl : j < counts.length := by omega
      obtain ⟨b, off, hix, hld⟩ := at_ix R hjl _ (List.getElem?_eq_getElem hjl)
      simp (disch := omega) only [i, sh, sh2, shi, dec, c1, c3, hl, J30_1, hj, hix, hld]
      exact ⟨by unfold cntF; rw [if_pos (by omega), hj, Int.toNat_natCast, List.getElem?_eq_getElem hjl]; rfl, trivial⟩
end
end Go.Proofs.Ytoajcekgoalhjaa
