/-
  frame: Right.
-/
import Derived.Test.YtoajcekgoalhjaaFrB
set_option linter.all false
namespace Go.Proofs.Ytoajcekgoalhjaa
open Go.ChangeShapes Go.WideShapes Go.ChangeAt Go.RowKit Go.Lm
set_option linter.unusedSimpArgs false
set_option linter.unusedVariables false
set_option maxRecDepth 10000
section
variable {F : Nat → Prop} {g h h' : LHeap} {x m a k c : Nat} {cs : List LV} {CV CC : LV} {counts common bs bs' : List Int} {rs : List FX} {r : FX} {Zs : List Thing} {st : FSt} {S : Nat → Prop} {first : Int} {harts : Nat} {Ls : List LV} {V U : LV} {l l2 : List Int}
theorem frT_len (h8 : rs.length = 8) : (FrT x m a first harts CV counts CC common bs rs).length = 13 := by simp [FrG, h8]
theorem zat {Ts : List Thing} (n : Nat) (hn : Ts.length = n) (Zs : List Thing) (j : Nat) : (Ts ++ Zs)[n + j]? = Zs[j]? := by
  rw [List.getElem?_append_right (by omega)]
  congr 1
  omega
theorem zset {Ts : List Thing} (n : Nat) (hn : Ts.length = n) (Zs : List Thing) (j : Nat) (T : Thing) : (Ts ++ Zs).set (n + j) T = Ts ++ Zs.set j T := by
  rw [List.set_append_right _ _ (by omega)]
  congr 2
  omega
theorem zer {Ts : List Thing} (n : Nat) (hn : Ts.length = n) (Zs : List Thing) (j : Nat) : (Ts ++ Zs).eraseIdx (n + j) = Ts ++ Zs.eraseIdx j := by
  rw [List.eraseIdx_append_of_length_le (by omega)]
  congr 2
  omega
/-- How a place is counted. -/
def Marks (n : Nat) (pl : List Int) (p : Nat → Int) : Prop := pl.length = n ∧ ∀ q, q < n → pl[q]? = some (p q)
theorem Marks.set {n : Nat} {pl : List Int} {p p' : Nat → Int} (M : Marks n pl p) {j : Nat} (hj : j < n) (h : ∀ q, q < n → p' q = if q = j then p j + 1 else p q) : Marks n (pl.set j (p j + 1)) p' := by
  refine ⟨by simpa using M.1, fun q hq => ?_⟩
  have ml := M.1
  rw [h q hq]
  by_cases e : q = j
  · subst e; rw [List.getElem?_set_self (by omega), if_pos rfl]
  · rw [List.getElem?_set_ne (Ne.symm e), if_neg e]; exact M.2 q hq
theorem Marks.congr {n : Nat} {pl : List Int} {p p' : Nat → Int} (M : Marks n pl p) (h : ∀ q, q < n → p' q = p q) : Marks n pl p' := ⟨M.1, fun q hq => by rw [h q hq]; exact M.2 q hq⟩
def usedM (counts : List Int) (k q : Nat) : Int := if q < k ∧ 0 < (counts[q]?).getD 0 then 1 else 0
theorem row_lists (Sp : Sep F g h (FrT x m a first harts CV counts CC common bs rs ++ Zs)) (h8 : rs.length = 8) (hh : harts ≤ 8) : Row h (.slice x 4 harts (.ex harts)) slE ((rs.take harts).map (·.V)) := by
  have hlen : ((rs.take harts).map (·.V)).length = harts := by simp; omega
  refine Row.of (fr_x Sp) hlen.symm ?_ (by rw [hlen, frC_len, List.length_map]; show 4 + harts * 1 ≤ _; omega)
  have e : (List.drop 4 (frC m first harts CV (rs.map (·.V)) CC)) = rs.map (·.V) ++ [CC] := rfl
  have he : slE.e = 1 := rfl
  rw [e, hlen, he, Nat.mul_one, List.take_append_of_le_length (by rw [List.length_map]; omega)]
  have hc : ∀ f ∈ rs.take harts, slE.f f.V = [f.V] := fun f hf => by
    obtain ⟨j, hj⟩ := List.getElem?_of_mem (List.mem_of_mem_take hf)
    exact congrArg (· :: []) (cellOr_eq (fr_row Sp hj).cell)
  rw [← List.map_take]
  generalize rs.take harts = fs at hc
  induction fs with
  | nil => rfl
  | cons f fs ih =>
    rw [List.map_cons, List.flatMap_cons, hc f (by simp), ← ih fun f hf => hc f (by simp [hf])]
    rfl
theorem zeros_any : ((zerosB 256).any fun x => x != 0) = false := by
  rw [List.any_eq_false]
  intro y hy
  rw [(List.mem_replicate.1 hy).2]
  simp
theorem frL_sub {j e : Nat} {f : FX} (hj : (frL harts rs CC common)[j]? = some f) : ((((frL harts rs CC common).take j).map (·.l)).flatten ++ f.l.take e).Sublist ((frL harts rs CC common).map (·.l)).flatten := by
  conv => rhs; rw [← List.take_append_drop j (frL harts rs CC common)]
  obtain ⟨hl, he⟩ := List.getElem?_eq_some_iff.1 hj
  rw [List.map_append, List.flatten_append, List.drop_eq_getElem_cons hl, he, List.map_cons, List.flatten_cons]
  exact (List.Sublist.refl _).append ((List.take_sublist _ _).trans (List.sublist_append_left _ _))
theorem flat_step {j : Nat} {f : FX} {fs : List FX} (hj : fs[j]? = some f) : ((fs.take (j + 1)).map (·.l)).flatten = ((fs.take j).map (·.l)).flatten ++ f.l := by
  rw [List.take_succ, hj]
  simp
theorem take_step {l : List Int} {e : Nat} {y : Int} (h : l[e]? = some y) : l.take (e + 1) = l.take e ++ [y] := by
  rw [List.take_succ, h]; rfl
abbrev RZ (x c1 t3 b0 : Nat) (PV CC LL : LV) (pl : List Int) (ll : List LV) : List Thing := [Thing.cells c1 [.ptr x 0], Thing.vec intE PV pl, Thing.cells t3 [PV], Thing.cells b0 [CC], Thing.vec slE LL ll]
/-- One list is gone over. -/
theorem right_list {c1 t3 b0 : Nat} {PV LL : LV} {ll : List LV} {pl : List Int} {j : Nat} {f : FX} (hl : rs.map (·.l) = st.lists) (w : FWf st) (hj : (frL st.harts rs CC st.common)[j]? = some f) {d : List Int} (hd : d = (((frL st.harts rs CC st.common).take j).map (·.l)).flatten)
    (Sp : Sep S g h (FrT x m a st.first st.harts CV st.counts CC st.common st.bs rs ++ RZ x c1 t3 b0 PV CC LL pl ll)) (M : Marks st.counts.length pl fun q => usedM st.counts st.counts.length q + d.count (st.first + (q : Nat))) {N : LV → LHeap → Prop} {K : LV → LHeap → Prop} {x52 x53 : LV} (hj8 : j ≤ 8)
    (hN : ∀ h' pl', Sep S g h' (FrT x m a st.first st.harts CV st.counts CC st.common st.bs rs ++ RZ x c1 t3 b0 PV CC LL pl' ll) → (Marks st.counts.length pl' fun q => usedM st.counts st.counts.length q + (d ++ f.l).count (st.first + (q : Nat))) → N (i ((j : Int) + 1)) h') :
    J28_10 (.ptr c1 0) (.ptr t3 0) f.V x52 x53 (i j) h N K := by
  have h8 := fr8 hl w
  have bd := w.bounds
  have hT := frT_len (x := x) (m := m) (a := a) (first := st.first) (harts := st.harts) (CV := CV) (counts := st.counts) (CC := CC) (common := st.common) (bs := st.bs) h8
  have all_eq := frL_all (CC := CC) hl w
  have hsub : ∀ e, (d ++ f.l.take e).Sublist st.all := fun e => by rw [hd, ← all_eq]; exact frL_sub hj
  have hfree : st.all.length = st.freeN := by unfold FSt.all FSt.freeN; rw [List.length_append]; omega
  have hfl := w.freeLe
  have hdl : (d ++ f.l).length ≤ 4096 := by
    have := (hsub f.l.length).length_le
    rw [List.take_length] at this; omega
  rw [List.length_append] at hdl
  have hln := (frL_row Sp hj).len (P := Try.prog) ty50 h
  simp (disch := omega) only [J28_10, J28_11, i, sh, sh2, shi, dec, b_len, hln]
  refine loop_n (fun n s h => ∃ (e : Nat) (pl : List Int), s = i (e : Int) ∧ e + n = f.l.length ∧ Sep S g h (FrT x m a st.first st.harts CV st.counts CC st.common st.bs rs ++ RZ x c1 t3 b0 PV CC LL pl ll) ∧ Marks st.counts.length pl fun q => usedM st.counts st.counts.length q + (d ++ f.l.take e).count (st.first + (q : Nat))) (n := f.l.length) ⟨0, pl, rfl, by omega, Sp, by simpa using M⟩ ?_
  rintro n s h ⟨e, pl, rfl, he, Sp, M⟩
  cases n with
  | zero =>
    obtain rfl : e = f.l.length := by omega
    simp (disch := omega) only [L28_12, J28_9, i, sh, sh2, shi, dec]
    refine hN _ pl Sp ?_
    rw [List.take_length] at M
    exact M
  | succ n =>
    have hy := List.getElem?_eq_getElem (show e < f.l.length by omega)
    generalize f.l[e] = y at hy
    obtain ⟨b1, o1, ix1, ld1⟩ := at_ix (frL_row Sp hj) (j := e) (by omega) y hy
    have x1 := Sp.cell (13 + 0) (zat 13 hT _ 0)
    have x3 := Sp.cell (13 + 2) (zat 13 hT _ 2)
    have C := fr_fc Sp h8
    have k1 := C.c1
    have hmem : y ∈ st.all := (hsub (e + 1)).subset (by rw [take_step hy]; simp)
    obtain ⟨hin, _⟩ := w.mem hmem
    obtain ⟨i1, i2, _⟩ := ix_of hin
    have ml := M.1
    have hcv := M.2 _ i1
    have hcl : (d ++ f.l.take e).count (st.first + (st.ix y : Nat)) ≤ 4096 := Nat.le_trans List.count_le_length (by rw [List.length_append, List.length_take]; omega)
    have hu : 0 ≤ usedM st.counts st.counts.length (st.ix y) ∧ usedM st.counts st.counts.length (st.ix y) ≤ 1 := by unfold usedM; split <;> omega
    obtain ⟨b2, o2, h2, ix2, ld2, st2, S2⟩ := Sep.stn Sp (13 + 1) (zat 13 hT _ 1) (j := st.ix y) (by omega) (usedM st.counts st.counts.length (st.ix y) + (d ++ f.l.take e).count (st.first + (st.ix y : Nat)) + 1)
    rw [zset 13 hT] at S2
    have S2 : Sep S g h2 (FrT x m a st.first st.harts CV st.counts CC st.common st.bs rs ++ RZ x c1 t3 b0 PV CC LL (pl.set (st.ix y) (usedM st.counts st.counts.length (st.ix y) + (d ++ f.l.take e).count (st.first + (st.ix y : Nat)) + 1)) ll) := S2
    have ld2 := ld2 _ hcv
    have x21 := S2.cell (13 + 0) (zat 13 hT _ 0)
    have C2 := fr_fc S2 h8
    have k20 := C2.c0
    have i2' : y - st.first = (st.ix y : Nat) := i2.symm
    simp (disch := omega) only [L28_12, i, sh, sh2, shi, dec, ix1, ld1, x1, x3, k1, i2', ix2, ld2, st2, x21, k20]
    refine ⟨?_, trivial⟩
    refine (Frame_ok (fr_m S2 w.b1 w.b2 w.b3) y).mono ?_
    rintro _ h3 ⟨FV, rfl, O, mi, fr⟩
    have S3 := S2.pure fr
    have hfi := w.frameIn hin
    rw [if_pos hfi] at O
    simp (disch := omega) only [i, sh, sh2]
    refine (has60_ok O.row (by rw [frameB_len hfi]; omega)).mono ?_
    rintro _ h3 ⟨rfl, rfl⟩
    rw [w.z y hmem, zeros_any]
    simp (disch := omega) only [i, sh, sh2, shi, dec]
    refine ⟨n, by omega, e + 1, _, rfl, by omega, S3, M.set i1 fun q hq => ?_⟩
    rw [take_step hy, ← List.append_assoc, List.count_append]
    by_cases eq : q = st.ix y
    · subst eq
      rw [if_pos rfl, i2, show st.first + (y - st.first) = y by omega]
      simp
      omega
    · rw [if_neg eq, List.count_eq_zero_of_not_mem (l := [y])]
      · simp
      · simp only [List.mem_singleton]; omega
end
end Go.Proofs.Ytoajcekgoalhjaa
