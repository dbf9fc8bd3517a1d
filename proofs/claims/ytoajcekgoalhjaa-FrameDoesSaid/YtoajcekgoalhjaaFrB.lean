/-
  frame: Right.
-/
import Derived.Test.YtoajcekgoalhjaaFrA
set_option linter.all false
namespace Go.Proofs.Ytoajcekgoalhjaa
open Go.ChangeShapes Go.WideShapes Go.ChangeAt Go.RowKit Go.Lm
set_option linter.unusedSimpArgs false
set_option linter.unusedVariables false
set_option maxRecDepth 10000
def cellOr (V : LV) : LV := if V.cell then V else .nils
theorem cellOr_cell (V : LV) : (cellOr V).cell = true := by
  unfold cellOr
  split
  · assumption
  · rfl
theorem cellOr_eq {V : LV} (h : V.cell = true) : cellOr V = V := if_pos h
def slE : Enc LV := ⟨fun V => [cellOr V], 1, fun _ => rfl, fun V v h => by
  simp only [List.mem_cons, List.not_mem_nil, or_false] at h
  subst h; exact cellOr_cell V, by decide⟩
section
variable {F : Nat → Prop} {g h h' : LHeap} {x m a k c : Nat} {cs : List LV} {CV CC : LV} {counts common bs bs' : List Int} {rs : List FX} {r : FX} {Zs : List Thing} {st : FSt} {S : Nat → Prop} {first : Int} {harts : Nat} {Ls : List LV} {V U : LV} {l l2 : List Int}
theorem ty103 : Try.prog.underlying 103 = some (.slice 50) := by kernel_rfl
theorem bs103 (R : Row h V intE l) (h' : LHeap) : buildSliceL Try.prog 103 1 [(0, V)] h' = some (.slice h'.next 0 1 (.ex 1), h'.alloc (.cells [V] .ex)) := by
  rcases R with ⟨_, rfl | ⟨_, _, _, _, _, rfl⟩⟩ | ⟨_, _, _, _, _, rfl, _⟩ <;> exact nr (by kernel_rfl)
theorem ap103 {V U : LV} (hU : U.isStr = false) (g : LHeap) : builtinL Try.prog .append [103, 103] [V, U] g = appendL 1 24 V U g := append_ok (by kernel_rfl) hU g
theorem cut60 (x n : Nat) (hn : n ≤ 8) (h1 : 1 ≤ n) (lim : Nat) : cutT Try.prog 60 (.ptr x 4) none (some (.int .i64 (n : Int))) (some (.int .i64 (n : Int))) lim = some (.slice x 4 n (.ex n)) := by
  have e : cutT Try.prog 60 (.ptr x 4) none (some (.int .i64 (n : Int))) (some (.int .i64 (n : Int))) lim = if 0 ≤ (0 : Int) ∧ (0 : Int) ≤ n ∧ (n : Int) ≤ n ∧ (n : Int) ≤ (8 : Nat) ∧ (true = true → true = true) then
      some (.slice x (if (n : Int) = 0 then 4 else 4 + (0 : Int).toNat * 1) ((n : Int) - 0).toNat (.ex ((n : Int) - 0).toNat)) else none := nr (by kernel_rfl)
  rw [e, if_pos ⟨by omega, by omega, by omega, by omega, fun h => h⟩, if_neg (by omega)]
  simp
theorem mk50 {n : Nat} (hn : n ≤ 2 ^ 40) (h : LHeap) : makeSliceL Try.prog 50 (i n) (i n) h = some (.slice h.next 0 n (.ex n), h.alloc (.cells ((List.replicate n (0 : Int)).flatMap intE.f) .ex)) := by
  have e : makeSliceL Try.prog 50 (i n) (i n) h = if 0 ≤ (n : Int) ∧ (n : Int) ≤ n ∧ (8 : Int) * n ≤ 2 ^ 48 ∧ (n : Int) < 2 ^ 62 ∧ (i 0).cells.length = 1 ∧ (i 0).cellsOK = true then
            some (.slice h.next 0 (n : Int).toNat (.ex (n : Int).toNat), h.alloc (.cells (List.replicate (n : Int).toNat (i 0).cells).flatten .ex)) else none := nr (by kernel_rfl)
  rw [e, if_pos ⟨by omega, by omega, by omega, by omega, rfl, rfl⟩]
  simp only [Int.toNat_natCast]
  have e2 : (List.replicate n (i 0).cells).flatten = (List.replicate n (0 : Int)).flatMap intE.f := by
    clear e hn
    induction n with
    | zero => rfl
    | succ n ih => rw [List.replicate_succ, List.flatten_cons, ih, List.replicate_succ, List.flatMap_cons]; rfl
  rw [e2]
/-- A new row of zeros. -/
theorem Sep.zeros {Ts : List Thing} (S : Sep F g h Ts) (n : Nat) : Sep F g (h.alloc (.cells ((List.replicate n (0 : Int)).flatMap intE.f) .ex)) (Ts ++ [Thing.vec intE (.slice h.next 0 n (.ex n)) (List.replicate n 0)]) := by
  refine S.vec _ (Row.of (get_alloc_eq _ _) (by simp) ?_ ?_) ⟨Nat.le_refl _, fun hh => by omega⟩ ⟨_, .ex, get_alloc_eq _ _, by decide⟩ (Fr.alloc _ _) fun b hb => ?_
  · rw [List.drop_zero, List.take_of_length_le (by rw [flat_len]; exact Nat.le_refl _)]
  · rw [flat_len]; omega
  · cases hb; exact ⟨Nat.le_refl _, Nat.lt_succ_self _⟩
/-- One number of a row is turned. -/
theorem Sep.stn {Ts : List Thing} (Sp : Sep F g h Ts) (q : Nat) (hq : Ts[q]? = some (Thing.vec intE V l)) {j : Nat} (hj : j < l.length) (v : Int) : ∃ b off h', ixAddrL none 1 V (.int .i64 (j : Int)) = some (.ptr b off) ∧ (∀ w, l[j]? = some w → cellO none off (h.get b) = some (.int .i64 w)) ∧ storeV 1 (.ptr b off) (.int .i64 v) h = some h' ∧ Sep F g h' (Ts.set q (Thing.vec intE V (l.set j v))) := by
  obtain ⟨b, off, h', e1, e2, S', _⟩ := Sp.stf q hq (k := j) (j := 0) v (v := i v) rfl (List.getElem?_eq_getElem hj) (by decide) rfl
  have R := Sp.row q hq
  have := R.ix (k := .i64) hj
  rw [e1] at this
  refine ⟨b, off, h', this, fun w hw => ?_, e2, S'⟩
  obtain ⟨b', off', e3, e4⟩ := at_ix R hj w hw
  have he : intE.e = 1 := rfl
  rw [he] at this
  rw [e3] at this
  cases this
  exact e4
/-- The lists that Right goes over. -/
def frL (harts : Nat) (rs : List FX) (CC : LV) (common : List Int) : List FX := rs.take harts ++ [⟨CC, common⟩]
theorem frL_row {j : Nat} {f : FX} (Sp : Sep F g h (FrG x m a cs CV counts CC common bs rs ++ Zs)) (hj : (frL harts rs CC common)[j]? = some f) : Row h f.V intE f.l := by
  unfold frL at hj
  rw [List.getElem?_append] at hj
  split at hj
  · rw [List.getElem?_take] at hj
    split at hj
    · exact fr_row Sp hj
    · cases hj
  · rw [List.getElem?_singleton] at hj
    split at hj
    · cases hj; exact fr_cc Sp
    · cases hj
theorem flat_nil {ls : List (List Int)} (h : ∀ l ∈ ls, l = []) : ls.flatten = [] := by
  induction ls with
  | nil => rfl
  | cons a ls ih =>
    rw [List.flatten_cons, h a (by simp), List.nil_append]
    exact ih fun l hl => h l (by simp [hl])
theorem frL_all (hl : rs.map (·.l) = st.lists) (w : FWf st) : ((frL st.harts rs CC st.common).map (·.l)).flatten = st.all := by
  unfold frL FSt.all
  rw [List.map_append, List.map_take, hl, List.flatten_append]
  have e : st.lists.flatten = (st.lists.take st.harts).flatten := by
    conv => lhs; rw [← List.take_append_drop st.harts st.lists]
    rw [List.flatten_append, flat_nil (ls := st.lists.drop st.harts), List.append_nil]
    intro l hl
    obtain ⟨j, hj⟩ := List.getElem?_of_mem hl
    rw [List.getElem?_drop] at hj
    have h8 := w.l8
    have := (List.getElem?_eq_some_iff.1 hj).1
    have := w.le (st.harts + j) (by omega) (by omega)
    rw [hj] at this
    exact Option.some.inj this
  rw [e]
  simp
end
end Go.Proofs.Ytoajcekgoalhjaa
