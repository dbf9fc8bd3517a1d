/-
  frame, the reference: its things; Count, Used, Incr, with.
-/
import Derived.Test.YtoajcekgoalhjaaFrJ
import Derived.Test.YtoajcekgoalhjaaFrU
import Derived.Test.YtoajcekgoalhjaaFrV
set_option linter.all false
namespace Go.Proofs.Ytoajcekgoalhjaa
open Go.ChangeShapes Go.WideShapes Go.ChangeAt Go.RowKit Go.Lm
set_option linter.unusedSimpArgs false
set_option linter.unusedVariables false
set_option maxRecDepth 10000
def Thing.row {X : Type} (E : Enc X) (V : LV) (l : List X) : Thing := ⟨fun a => V.obj = some a, fun h => Row h V E l, fun _ _ k a => a.fr k⟩
def FX.R (r : FX) : Thing := Thing.row intE r.V r.l
def RG (x : Nat) (first : Int) (CV : LV) (counts : List Int) (SV : LV) (Vs : List LV) (CC : LV) (common : List Int) (rs : List FX) : List Thing :=
  [Thing.cells x [i first, CV, SV, CC], Thing.vec intE CV counts, Thing.vec slE SV Vs, Thing.vec intE CC common] ++ rs.map FX.R
abbrev RT (x : Nat) (first : Int) (CV : LV) (counts : List Int) (SV : LV) (CC : LV) (common : List Int) (rs : List FX) : List Thing := RG x first CV counts SV (rs.map (·.V)) CC common rs
/-- Lists may be cut. -/
def Capds (rs : List FX) : Prop := ∀ (k : Nat) (r : FX), rs[k]? = some r → Capd r.V 1
def RD (x : Nat) (st : FSt) (Ts : List Thing) : Prop :=
  ∃ CV SV CC rs, Ts = RT x st.first CV st.counts SV CC st.common rs ∧ (rs.map (·.l) = st.lists.take st.harts ∧ Capds rs) ∧ FWf st
abbrev RBox (x : Nat) (S : Nat → Prop) (st : FSt) : Thing := Thing.box (RD x) S st
section
variable {F : Nat → Prop} {g h h' : LHeap} {x m a k c : Nat} {cs Vs : List LV} {CV CC SV W : LV} {counts common bs bs' : List Int} {rs : List FX} {r : FX} {Zs : List Thing} {st : FSt} {S : Nat → Prop} {first : Int} {harts : Nat} {V U : LV} {l l2 : List Int}
theorem rg_at (hk : rs[k]? = some r) : (RG x first CV counts SV Vs CC common rs ++ Zs)[4 + k]? = some (Thing.row intE r.V r.l) := by
  have hl := (List.getElem?_eq_some_iff.1 hk).1
  unfold RG
  rw [List.getElem?_append_left (by simp; omega), List.getElem?_append_right (by simp)]
  simp [hk, FX.R]
theorem rg_set (hk : k < rs.length) (V : LV) (l : List Int) : (RG x first CV counts SV Vs CC common rs ++ Zs).set (4 + k) (Thing.row intE V l) = RG x first CV counts SV Vs CC common (rs.set k ⟨V, l⟩) ++ Zs := by
  unfold RG
  rw [List.set_append_left _ _ (by simp; omega), List.set_append_right _ _ (by simp), List.map_set]
  congr 2
  simp [FX.R]
theorem Sep.rowR {Ts : List Thing} (Sp : Sep F g h Ts) (q : Nat) (hq : Ts[q]? = some (Thing.row intE V l)) : Row h V intE l := Sp.at q hq
theorem rg_row (Sp : Sep F g h (RG x first CV counts SV Vs CC common rs ++ Zs)) (hk : rs[k]? = some r) : Row h r.V intE r.l := Sep.rowR Sp _ (rg_at hk)
theorem rg_x (Sp : Sep F g h (RG x first CV counts SV Vs CC common rs ++ Zs)) : h.get x = some (.cells [i first, CV, SV, CC] .ex) := Sp.cell 0 rfl
theorem rg_cv (Sp : Sep F g h (RG x first CV counts SV Vs CC common rs ++ Zs)) : Row h CV intE counts := Sp.row 1 rfl
theorem rg_sv (Sp : Sep F g h (RG x first CV counts SV Vs CC common rs ++ Zs)) : Row h SV slE Vs := Sp.row 2 rfl
theorem rg_cc (Sp : Sep F g h (RG x first CV counts SV Vs CC common rs ++ Zs)) : Row h CC intE common := Sp.row 3 rfl
/-- A list of the lists, loaded. -/
theorem rg_ld (Sp : Sep F g h (RT x first CV counts SV CC common rs ++ Zs)) (hk : rs[k]? = some r) : ∃ b off, ixAddrL none 1 SV (.int .i64 (k : Int)) = some (.ptr b off) ∧ cellO none off (h.get b) = some r.V := by
  have hV : (rs.map (·.V))[k]? = some r.V := by rw [List.getElem?_map, hk]; rfl
  obtain ⟨b, off, e1, e2⟩ := (rg_sv Sp).fl hV
  have hix := (rg_sv Sp).ix (k := .i64) (List.getElem?_eq_some_iff.1 hV).1
  rw [e1] at hix
  refine ⟨b, off, hix, ?_⟩
  have := e2 0 _ rfl
  rw [cellOr_eq (rg_row Sp hk).cell] at this
  exact this
/-- A new list is stored. -/
theorem rg_put (Sp : Sep F g h (RT x first CV counts SV CC common rs ++ Zs ++ [Thing.vec intE W l])) (hk : rs[k]? = some r) : ∃ b off h', ixAddrL none 1 SV (.int .i64 (k : Int)) = some (.ptr b off) ∧ storeV 1 (.ptr b off) W h = some h' ∧ Sep F g h' (RT x first CV counts SV CC common (rs.set k ⟨W, l⟩) ++ Zs) := by
  have hl := (List.getElem?_eq_some_iff.1 hk).1
  have hi : (RT x first CV counts SV CC common rs ++ Zs ++ [Thing.vec intE W l])[(RT x first CV counts SV CC common rs ++ Zs).length]? = some (Thing.vec intE W l) := by simp
  have RW := Sp.row _ hi
  have S1 := Sp.put _ hi (Thing.row intE W l) (Fr.refl _ _) RW fun b hb => ⟨.inl hb, Sp.lt _ hi hb⟩
  rw [List.set_append_right _ _ (Nat.le_refl _), Nat.sub_self, List.set_cons_zero] at S1
  have S2 := S1.move (rg_at hk)
  rw [rg_set hl] at S2
  have hV : (rs.map (·.V))[k]? = some r.V := by rw [List.getElem?_map, hk]; rfl
  obtain ⟨b, off, h', e1, e2, S3, _⟩ := S2.stf (E := slE) (V := SV) (l := rs.map (·.V)) 2 rfl (k := k) (j := 0) W (v := W) RW.cell hV (by decide) (by show [cellOr W] = [cellOr r.V].set 0 W; rw [cellOr_eq RW.cell]; rfl)
  have hix := (rg_sv S2).ix (k := .i64) (List.getElem?_eq_some_iff.1 hV).1
  rw [e1] at hix
  refine ⟨b, off, h', hix, e2, ?_⟩
  have e : (RG x first CV counts SV (rs.map (·.V)) CC common (rs.set k ⟨W, l⟩) ++ Zs).set 2 (Thing.vec slE SV ((rs.map (·.V)).set k W)) = RT x first CV counts SV CC common (rs.set k ⟨W, l⟩) ++ Zs := by
    unfold RT
    rw [List.map_set]; rfl
  rw [← e]
  exact S3
/-- New common ones are stored. -/
theorem rg_putc (Sp : Sep F g h (RG x first CV counts SV Vs CC common rs ++ Zs ++ [Thing.vec intE W l])) : ∃ h', storeV 1 (.ptr x 3) W h = some h' ∧ Sep F g h' (RG x first CV counts SV Vs W l rs ++ Zs) ∧ Fr (fun b => b = x) h h' := by
  have hi : (RG x first CV counts SV Vs CC common rs ++ Zs ++ [Thing.vec intE W l])[(RG x first CV counts SV Vs CC common rs ++ Zs).length]? = some (Thing.vec intE W l) := by simp
  have RW := Sp.row _ hi
  have S1 := Sp.move (i := 3) (T := Thing.vec intE CC common) rfl
  have x0 : h.get x = some (.cells [i first, CV, SV, CC] .ex) := S1.cell 0 rfl
  have S2 := S1.store 0 rfl [i first, CV, SV, W]
  exact ⟨_, by rw [store_o _ _ _ RW.cell, x0]; rfl, S2, Fr.set _ rfl⟩
theorem rg_stn (Sp : Sep F g h (RG x first CV counts SV Vs CC common rs ++ Zs)) {j : Nat} (hj : j < counts.length) (v : Int) : ∃ b off h', ixAddrL none 1 CV (.int .i64 (j : Int)) = some (.ptr b off) ∧ (∀ w, counts[j]? = some w → cellO none off (h.get b) = some (.int .i64 w)) ∧ storeV 1 (.ptr b off) (.int .i64 v) h = some h' ∧ Sep F g h' (RG x first CV (counts.set j v) SV Vs CC common rs ++ Zs) :=
  Sep.stn Sp 1 rfl hj v
theorem rcount_ok (Sp : Sep F g h (RG x first CV counts SV Vs CC common rs ++ Zs)) (hf : 0 ≤ first) (hf2 : first ≤ 4096) (hn : counts.length ≤ 4096) (y : Int) (y1 : y < 9223372036854775808) : Ok Try.prog 70 [.ptr x 0, i y] h fun v h' => v = i (cntF first counts y) ∧ h' = h := by
  refine ok70 fun _ _ => ?_
  have x0 := rg_x Sp
  have hl := (rg_cv Sp).len (P := Try.prog) ty50
  by_cases h1 : y < first
  · simp (disch := omega) only [F70, i, sh, sh2, shi, dec, x0, hl]
    exact ⟨by unfold cntF; rw [if_neg (by omega)], trivial⟩
  · by_cases h2 : (counts.length : Int) ≤ y - first
    · simp (disch := omega) only [F70, i, sh, sh2, shi, dec, x0, hl]
      exact ⟨by unfold cntF; rw [if_neg (by omega)], trivial⟩
    · obtain ⟨j, hj⟩ : ∃ j : Nat, y - first = j := ⟨(y - first).toNat, by omega⟩
      have hjl : j < counts.length := by omega
      obtain ⟨b, off, hix, hld⟩ := at_ix (rg_cv Sp) hjl _ (List.getElem?_eq_getElem hjl)
      simp (disch := omega) only [F70, i, sh, sh2, shi, dec, x0, hl, hj, hix, hld]
      exact ⟨by unfold cntF; rw [if_pos (by omega), hj, Int.toNat_natCast, List.getElem?_eq_getElem hjl]; rfl, trivial⟩
theorem rd_open (B : (RBox x S st).ok g) (lt : ∀ b, S b → b < g.next) : ∃ CV SV CC rs, Sep S g g (RT x st.first CV st.counts SV CC st.common rs ++ []) ∧ (rs.map (·.l) = st.lists.take st.harts ∧ Capds rs) ∧ FWf st := by
  obtain ⟨Ts, ⟨CV, SV, CC, rs, rfl, h1, h2⟩, Sp⟩ := box_open B lt
  exact ⟨CV, SV, CC, rs, by rw [List.append_nil]; exact Sp, h1, h2⟩
theorem rd_shut (Sp : Sep S g h (RT x st.first CV st.counts SV CC st.common rs ++ [])) (hl : (rs.map (·.l) = st.lists.take st.harts ∧ Capds rs)) (w : FWf st) : After (RD x) S g h st := by
  rw [List.append_nil] at Sp
  exact Sp.after ⟨CV, SV, CC, rs, rfl, hl, w⟩
theorem rcountB (B : (RBox x S st).ok g) (lt : ∀ b, S b → b < g.next) (y : Int) (y1 : y < 9223372036854775808) : Ok Try.prog 70 [.ptr x 0, i y] g fun v h => v = i (st.cnt y) ∧ h = g := by
  obtain ⟨CV, SV, CC, rs, Sp, hl, w⟩ := rd_open B lt
  exact rcount_ok Sp w.bounds.1 w.bounds.2.1 w.bounds.2.2 y y1
theorem rusedB (B : (RBox x S st).ok g) (lt : ∀ b, S b → b < g.next) : Ok Try.prog 71 [.ptr x 0] g fun v h => v = i (usedL st.counts : Int) ∧ h = g := by
  obtain ⟨CV, SV, CC, rs, Sp, hl, w⟩ := rd_open B lt
  refine ok71 fun _ _ => ?_
  have x0 := rg_x Sp
  have hln := (rg_cv Sp).len (P := Try.prog) ty50
  have bd := w.bounds.2.2
  simp (disch := omega) only [F71, J71_0, J71_1, J71_3, i, sh, sh2, shi, dec, x0, b_len, hln]
  refine loop_n (fun n (s : LV × LV) h => ∃ j : Nat, s = (LV.int .i64 (usedL (st.counts.take j) : Int), LV.int .i64 (j : Int)) ∧ j + n = st.counts.length ∧ h = g) (n := st.counts.length) ⟨0, rfl, by omega, rfl⟩ ?_
  rintro n s h ⟨j, rfl, hj, rfl⟩
  cases n with
  | zero =>
    obtain rfl : j = st.counts.length := by omega
    simp (disch := omega) only [L71_4, J71_2, i, sh, sh2, shi, dec]
    rw [List.take_length]
    exact ⟨rfl, trivial⟩
  | succ n =>
    have hv := List.getElem?_eq_getElem (show j < st.counts.length by omega)
    generalize st.counts[j] = v at hv
    obtain ⟨b, off, hix, hld⟩ := at_ix (rg_cv Sp) (j := j) (by omega) v hv
    have hu : usedL (st.counts.take (j + 1)) = usedL (st.counts.take j) + (if 0 < v then 1 else 0) := by
      rw [take_step hv]
      unfold usedL
      rw [List.filter_append, List.length_append]
      by_cases h0 : 0 < v <;> simp [h0]
    have hle := usedL_le (st.counts.take j)
    rw [List.length_take] at hle
    by_cases h0 : 0 < v
    · simp (disch := omega) only [L71_4, i, sh, sh2, shi, dec, hix, hld]
      refine ⟨n, by omega, j + 1, ?_, by omega, trivial⟩
      rw [hu, if_pos h0]
      congr 2
    · simp (disch := omega) only [L71_4, i, sh, sh2, shi, dec, hix, hld]
      refine ⟨n, by omega, j + 1, ?_, by omega, trivial⟩
      rw [hu, if_neg h0]
      congr 2
theorem RIncr_ok (B : (RBox x S st).ok g) (lt : ∀ b, S b → b < g.next) (y : Int) (y1 : y < 9223372036854775808) : Ok Try.prog 69 [.ptr x 0, i y] g fun v h => v = i (incrS st y).2 ∧ After (RD x) S g h (incrS st y).1 := by
  obtain ⟨CV, SV, CC, rs, Sp, hl, w⟩ := rd_open B lt
  refine ok69 fun _ _ => ?_
  simp (disch := omega) only [F69]
  refine (rcount_ok Sp w.bounds.1 w.bounds.2.1 w.bounds.2.2 y y1).mono ?_
  rintro _ h ⟨rfl, rfl⟩
  rw [← cnt_eq]
  have wf := incr_wf w y
  unfold incrS at wf ⊢
  have hle := w.cnt_le y
  by_cases h0 : st.cnt y = 0
  · rw [if_pos h0]
    rw [h0]
    simp (disch := omega) only [i, sh, sh2, shi, dec]
    exact ⟨trivial, rd_shut Sp hl w⟩
  · simp (disch := omega) only [i, sh, sh2, shi, dec]
    refine (rcount_ok Sp w.bounds.1 w.bounds.2.1 w.bounds.2.2 y y1).mono ?_
    rintro _ h ⟨rfl, rfl⟩
    rw [← cnt_eq]
    by_cases h1 : 1048576 ≤ st.cnt y
    · rw [if_neg h0, if_pos h1]
      simp (disch := omega) only [i, sh, sh2, shi, dec]
      exact ⟨trivial, rd_shut Sp hl w⟩
    · rw [if_neg h0, if_neg h1] at wf ⊢
      obtain ⟨i1, i2, i3⟩ := ix_of (cnt_pos h0)
      have bd := w.bounds.2.2
      obtain ⟨b, off, h', e1, e2, e3, S'⟩ := rg_stn Sp i1 (st.cnt y + 1)
      have e2 := e2 _ i3
      have x0 := rg_x Sp
      have i2 := i2.symm
      simp (disch := omega) only [i, sh, sh2, shi, dec, x0, i2, e1, e2, e3]
      exact ⟨⟨trivial, rd_shut (st := setC st y (st.cnt y + 1)) S' hl wf⟩, trivial⟩
end
end Go.Proofs.Ytoajcekgoalhjaa
