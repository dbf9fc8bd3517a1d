/-
  frame: Free, Used, List, Common.
-/
import Derived.Test.YtoajcekgoalhjaaFr3
set_option linter.all false
namespace Go.Proofs.Ytoajcekgoalhjaa
open Go.ChangeShapes Go.WideShapes Go.ChangeAt Go.RowKit Go.Lm
set_option linter.unusedSimpArgs false
set_option maxRecDepth 10000
section
variable {F : Nat → Prop} {g h h' : LHeap} {x m a k : Nat} {cs : List LV} {CV CC : LV} {counts common bs : List Int} {rs : List FX} {r : FX} {Zs : List Thing} {st : FSt} {S : Nat → Prop} {first : Int} {harts : Nat} {Ls : List LV} {V : LV}
/-- The frames' things, whole. -/
abbrev FrT (x m a : Nat) (first : Int) (harts : Nat) (CV : LV) (counts : List Int) (CC : LV) (common bs : List Int) (rs : List FX) : List Thing :=
  FrG x m a (frC m first harts CV (rs.map (·.V)) CC) CV counts CC common bs rs
theorem fr_x (Sp : Sep F g h (FrG x m a cs CV counts CC common bs rs ++ Zs)) : h.get x = some (.cells cs .ex) := Sp.cell 0 rfl
theorem fr_cv (Sp : Sep F g h (FrG x m a cs CV counts CC common bs rs ++ Zs)) : Row h CV intE counts := Sp.row 1 rfl
theorem fr_cc (Sp : Sep F g h (FrG x m a cs CV counts CC common bs rs ++ Zs)) : Row h CC intE common := Sp.row 2 rfl
theorem fr_m (Sp : Sep F g h (FrG x m a cs CV counts CC common bs rs ++ Zs)) (b1 : bs.length ≤ 1048576) (b2 : 256 ≤ bs.length) (b3 : bs.length % 256 = 0) : MemAt h m a bs := ⟨Sp.cell 3 rfl, Sp.cell 4 rfl, b1, b2, b3⟩
theorem fr_row (Sp : Sep F g h (FrG x m a cs CV counts CC common bs rs ++ Zs)) (hk : rs[k]? = some r) : Row h r.V intE r.l := Sp.row _ (fr_at hk)
theorem fr_fc (Sp : Sep F g h (FrT x m a first harts CV counts CC common bs rs ++ Zs)) (h8 : rs.length = 8) : FC h x m first harts CV CC := FC.of (fr_x Sp) (by simp [h8])
def lensL (rs : List FX) : Nat := (rs.map fun r => r.l.length).sum
theorem lensL_eq (rs : List FX) : lensL rs = (rs.map (·.l)).flatten.length := by
  unfold lensL
  rw [List.length_flatten, List.map_map]
  rfl
theorem lens_take {rs : List FX} {r : FX} (hk : rs[k]? = some r) : lensL (rs.take (k + 1)) = lensL (rs.take k) + r.l.length := by
  obtain ⟨hl, rfl⟩ := List.getElem?_eq_some_iff.1 hk
  unfold lensL
  rw [List.take_succ, List.getElem?_eq_getElem hl]
  simp only [Option.toList_some, List.map_append, List.map_cons, List.map_nil, List.sum_append, List.sum_cons, List.sum_nil]
  omega
theorem lens_le (rs : List FX) (k : Nat) : lensL (rs.take k) ≤ lensL rs := by
  conv => rhs; rw [← List.take_append_drop k rs]
  unfold lensL
  rw [List.map_append, List.sum_append]
  omega
theorem ix60 (vs : List LV) (k : Nat) (hk : k < 8) : indexT Try.prog 60 (.agg vs) (.int .i64 (k : Int)) = vs[k]? := by
  have e : indexT Try.prog 60 (.agg vs) (.int .i64 (k : Int)) = if 0 ≤ (k : Int) ∧ (k : Int) < (8 : Nat) then vs[(k : Int).toNat * 1]? else none := nr (by kernel_rfl)
  rw [e, if_pos ⟨by omega, by omega⟩, Nat.mul_one, Int.toNat_natCast]
theorem free_ok (Sp : Sep F g h (FrT x m a first harts CV counts CC common bs rs ++ Zs)) (h8 : rs.length = 8) (hb : common.length + lensL rs ≤ 4096) : Ok Try.prog 27 [.ptr x 0] h fun v h' => v = i ((common.length + lensL rs : Nat) : Int) ∧ h' = h := by
  refine ok27 fun _ _ => ?_
  simp (disch := omega) only [F27, J27_0]
  have c := fr_fc Sp h8
  refine (made_ok c).mono ?_
  rintro _ h ⟨rfl, rfl⟩
  have c12 := c.c12
  have hl := (fr_cc Sp).len (P := Try.prog) ty50
  have x0 := fr_x Sp
  have hag : cellO (some 8) 4 (h.get x) = some (.agg (rs.map (·.V))) := by
    rw [x0, cells_o _ _ _ _ (by rw [frC_len]; simp; omega)]
    have e : (List.drop 4 (frC m first harts CV (rs.map (·.V)) CC)) = rs.map (·.V) ++ [CC] := rfl
    rw [e, List.take_append_of_le_length (by simp; omega), List.take_of_length_le (by simp; omega)]
  simp (disch := omega) only [J27_1, J27_2, J27_4, i, sh, sh2, shi, dec, c12, b_len, hl, hag]
  refine loop_n (fun n s h' => ∃ k : Nat, s = (.int .i64 ((common.length + lensL (rs.take k) : Nat) : Int), .int .i64 (k : Int)) ∧ k + n = 8 ∧ h' = h) (n := 8) ⟨0, ?_, rfl, rfl⟩ ?_
  · simp [lensL]
  rintro n s h1 ⟨k, rfl, hk, rfl⟩
  cases n with
  | zero =>
    obtain rfl : k = 8 := by omega
    simp (disch := omega) only [L27_5, J27_3, i, sh, sh2, shi, dec]
    rw [List.take_of_length_le (by omega)]
    exact ⟨rfl, trivial⟩
  | succ n =>
    have hkr : rs[k]? = some rs[k] := List.getElem?_eq_getElem (by omega)
    have hle := lens_le rs (k + 1)
    rw [lens_take hkr] at hle
    have hix : indexT Try.prog 60 (.agg (rs.map (·.V))) (.int .i64 (k : Int)) = some rs[k].V := by
      rw [ix60 _ k (by omega), List.getElem?_map, hkr]; rfl
    have hl2 := (fr_row Sp hkr).len (P := Try.prog) ty50
    simp (disch := omega) only [L27_5, i, sh, sh2, shi, dec, hix, b_len, hl2]
    refine ⟨n, by omega, k + 1, ?_, by omega, trivial⟩
    rw [lens_take hkr]
    simp only [Prod.mk.injEq, LV.int.injEq, true_and]
    exact ⟨by omega, by omega⟩
theorem used_ok (Sp : Sep F g h (FrT x m a first harts CV counts CC common bs rs ++ Zs)) (h8 : rs.length = 8) (hb : common.length + lensL rs ≤ 4096) (hn : counts.length ≤ 4096) : Ok Try.prog 26 [.ptr x 0] h fun v h' => v = i ((counts.length : Int) - ((common.length + lensL rs : Nat) : Int)) ∧ h' = h := by
  refine ok26 fun _ _ => ?_
  simp (disch := omega) only [F26]
  have c := fr_fc Sp h8
  refine (made_ok c).mono ?_
  rintro _ h ⟨rfl, rfl⟩
  have c3 := c.c3
  have hl := (fr_cv Sp).len (P := Try.prog) ty50
  simp (disch := omega) only [i, sh, sh2, shi, dec, c3, hl]
  refine ⟨?_, trivial⟩
  refine (free_ok Sp h8 hb).mono ?_
  rintro _ h ⟨rfl, rfl⟩
  simp (disch := omega) only [i, sh, sh2, shi, dec, c3]
  exact ⟨trivial, trivial, trivial⟩
theorem list_ok (Sp : Sep F g h (FrT x m a first harts CV counts CC common bs rs ++ Zs)) (h8 : rs.length = 8) (hh : harts ≤ 8) (hb : lensL rs ≤ 4096) (y : Int) : Ok Try.prog 31 [.ptr x 0, i y] h fun v h' => Vec intE h.next h' v (if 0 ≤ y ∧ y < harts then ((rs.map (·.l))[y.toNat]?).getD [] else []) ∧ Mine h' v ∧ Fr noF h h' := by
  refine ok31 fun _ _ => ?_
  simp (disch := omega) only [F31]
  have c := fr_fc Sp h8
  refine (made_ok c).mono ?_
  rintro _ h ⟨rfl, rfl⟩
  simp (disch := omega) only [i, sh, sh2]
  refine (isH_ok c y).mono ?_
  rintro _ h ⟨rfl, rfl⟩
  by_cases hy : 0 ≤ y ∧ y < harts
  · rw [if_pos hy]
    have ed : decide (0 ≤ y ∧ y < (harts : Int)) = true := decide_eq_true hy
    obtain ⟨k, rfl⟩ : ∃ k : Nat, y = k := ⟨y.toNat, by omega⟩
    have hkr : rs[k]? = some rs[k] := List.getElem?_eq_getElem (by omega)
    have hix := ix8 (x := x) (k := k) (by omega)
    have hld := FC.list (Ls := rs.map (·.V)) (k := k) (V := rs[k].V) (fr_x Sp) (by rw [List.getElem?_map, hkr]; rfl)
    simp (disch := omega) only [i, sh, sh2, ed, hix, hld]
    have hle := lens_le rs (k + 1)
    rw [lens_take hkr] at hle
    refine (clone64_ok (fr_row Sp hkr) (by omega)).mono ?_
    rintro V h' ⟨O, mi, f⟩
    rw [List.getElem?_map, Int.toNat_natCast, hkr]
    exact ⟨O, mi, f⟩
  · rw [if_neg hy]
    have ed : decide (0 ≤ y ∧ y < (harts : Int)) = false := decide_eq_false hy
    simp (disch := omega) only [i, sh, sh2, ed]
    exact ⟨Vec.nils _ _, trivial, Fr.refl _ _⟩
theorem common_ok (Sp : Sep F g h (FrT x m a first harts CV counts CC common bs rs ++ Zs)) (h8 : rs.length = 8) (hb : common.length ≤ 4096) : Ok Try.prog 32 [.ptr x 0] h fun v h' => Vec intE h.next h' v common ∧ Mine h' v ∧ Fr noF h h' := by
  refine ok32 fun _ _ => ?_
  simp (disch := omega) only [F32]
  have c := fr_fc Sp h8
  refine (made_ok c).mono ?_
  rintro _ h ⟨rfl, rfl⟩
  have c12 := c.c12
  simp (disch := omega) only [i, sh, sh2, c12]
  refine (clone64_ok (fr_cc Sp) (by omega)).mono ?_
  rintro V h' ⟨O, mi, f⟩
  exact ⟨O, mi, f⟩
end
end Go.Proofs.Ytoajcekgoalhjaa
