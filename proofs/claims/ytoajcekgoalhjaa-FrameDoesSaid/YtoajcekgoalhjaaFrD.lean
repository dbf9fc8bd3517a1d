/-
  frame: Right, whole.
-/
import Derived.Test.YtoajcekgoalhjaaFrC
set_option linter.all false
namespace Go.Proofs.Ytoajcekgoalhjaa
open Go.ChangeShapes Go.WideShapes Go.ChangeAt Go.RowKit Go.Lm
set_option linter.unusedSimpArgs false
set_option linter.unusedVariables false
set_option maxRecDepth 10000
section
variable {F : Nat → Prop} {g h h' : LHeap} {x m a k c : Nat} {cs : List LV} {CV CC : LV} {counts common bs bs' : List Int} {rs : List FX} {r : FX} {Zs : List Thing} {st : FSt} {S : Nat → Prop} {first : Int} {harts : Nat} {Ls : List LV} {V U : LV} {l l2 : List Int}
theorem cut_max {C : List Int} {l : List FX} {j : Nat} (h : l.length = j) : l.take j = l := List.take_of_length_le (by omega)
theorem right_tail {c1 t3 : Nat} {PV : LV} {pl : List Int} (hl : rs.map (·.l) = st.lists) (w : FWf st)
    (Sp : Sep S g h (FrT x m a st.first st.harts CV st.counts CC st.common st.bs rs ++ [Thing.cells c1 [.ptr x 0], Thing.vec intE PV pl, Thing.cells t3 [PV]])) (M : Marks st.counts.length pl (usedM st.counts st.counts.length)) {K : LV → LHeap → Prop}
    (hK : ∀ h' Zs, Sep S g h' (FrT x m a st.first st.harts CV st.counts CC st.common st.bs rs ++ Zs) → K (.bool true) h') :
    J28_3 (.ptr c1 0) (.ptr t3 0) h K := by
  have h8 := fr8 hl w
  have hh := w.h8
  have hh1 := w.h1
  have bd := w.bounds
  have hT := frT_len (x := x) (m := m) (a := a) (first := st.first) (harts := st.harts) (CV := CV) (counts := st.counts) (CC := CC) (common := st.common) (bs := st.bs) h8
  have x1 := Sp.cell (13 + 0) (zat 13 hT _ 0)
  have C := fr_fc Sp h8
  have k2 := C.c2
  have k12 := C.c12
  have hb := bs103 (fr_cc Sp) h
  have hcut := cut60 x st.harts hh hh1
  have S1 := Sp.new [CC]
  rw [List.append_assoc] at S1
  have cCC := (fr_cc Sp).cell
  have hb0 : (FrT x m a st.first st.harts CV st.counts CC st.common st.bs rs ++ ([Thing.cells c1 [.ptr x 0], Thing.vec intE PV pl, Thing.cells t3 [PV]] ++ [Thing.cells h.next [CC]]))[13 + 3]? = some (Thing.cells h.next [CC]) := zat 13 hT _ 3
  have xb := S1.cell (13 + 3) hb0
  generalize hh1' : h.alloc (.cells [CC] .ex) = h1 at *
  have x11 := S1.cell (13 + 0) (zat 13 hT _ 0)
  have C1 := fr_fc S1 h8
  have k21 := C1.c2
  have hRL := row_lists S1 h8 hh
  have hRU : Row h1 (.slice h.next 0 1 (.ex 1)) slE [CC] := by
    refine Row.of xb rfl ?_ (Nat.le_refl 1)
    show [CC] = [cellOr CC] ++ []
    rw [cellOr_eq cCC]; rfl
  have hllen : ((rs.take st.harts).map (·.V)).length = st.harts := by simp; omega
  obtain ⟨ea, OV, OM⟩ := append_full (bytes := 24) hRL hllen (fr_x S1) hRU (by simp) (by rw [hllen]; simp; omega)
  have eap := ap103 (V := .slice x 4 st.harts (.ex st.harts)) (U := .slice h.next 0 1 (.ex 1)) rfl h1
  have he1 : slE.e = 1 := rfl
  rw [he1] at ea OV OM
  rw [ea] at eap
  have S2 := S1.vec _ OV.row OV.grow OM (Fr.alloc _ _) OV.lo
  rw [List.append_assoc] at S2
  generalize hh2 : h1.alloc (.cells (((rs.take st.harts).map (·.V)).flatMap slE.f ++ [CC].flatMap slE.f) .op) = h2 at *
  have hLL : (rs.take st.harts).map (·.V) ++ [CC] = (frL st.harts rs CC st.common).map (·.V) := by unfold frL; rw [List.map_append]; rfl
  have hfl : (frL st.harts rs CC st.common).length = st.harts + 1 := by unfold frL; simp; omega
  generalize hLV : LV.slice h1.next 0 (st.harts + [CC].length) (.op 1) = LL at *
  rw [hLL] at OV S2
  have S2 : Sep S g h2 (FrT x m a st.first st.harts CV st.counts CC st.common st.bs rs ++ RZ x c1 t3 h.next PV CC LL pl ((frL st.harts rs CC st.common).map (·.V))) := S2
  have hln := OV.row.len (P := Try.prog) ty103 h2
  rw [List.length_map, hfl] at hln
  simp (disch := omega) only [J28_3, i, sh, sh2, x1, k2, k12, hb, x11, k21, hcut, eap, hln, J28_5]
  refine ⟨⟨trivial, trivial, trivial, trivial, trivial, ?_, trivial⟩, trivial⟩
  refine loop_n (fun n s h' => ∃ (j : Nat) (pl : List Int), s = i (j : Int) ∧ j + n = st.harts + 1 ∧ Sep S g h' (FrT x m a st.first st.harts CV st.counts CC st.common st.bs rs ++ RZ x c1 t3 h.next PV CC LL pl ((frL st.harts rs CC st.common).map (·.V))) ∧ Marks st.counts.length pl fun q => usedM st.counts st.counts.length q + (((frL st.harts rs CC st.common).take j).map (·.l)).flatten.count (st.first + (q : Nat))) (n := st.harts + 1) ⟨0, pl, rfl, by omega, S2, by simpa using M⟩ ?_
  rintro n s h3 ⟨j, pl3, rfl, hj, S3, M3⟩
  have x13 := S3.cell (13 + 2) (zat 13 hT _ 2)
  cases n with
  | zero =>
    obtain rfl : j = st.harts + 1 := by omega
    have RP := S3.row (E := intE) (V := PV) (l := pl3) (13 + 1) (zat 13 hT _ 1)
    simp (disch := omega) only [L28_6, J28_7, J28_4, i, sh, sh2, shi, dec, x13]
    refine (has62_ok RP (by rw [M3.1]; omega)).mono ?_
    rintro _ h3 ⟨rfl, rfl⟩
    have hone : (pl3.any fun x => x != 1) = false := by
      rw [List.any_eq_false]
      intro y hy
      obtain ⟨q, hq⟩ := List.getElem?_of_mem hy
      have hql := (List.getElem?_eq_some_iff.1 hq).1
      rw [M3.1] at hql
      have := M3.2 q hql
      rw [hq] at this
      have e : ((frL st.harts rs CC st.common).take (st.harts + 1)) = frL st.harts rs CC st.common := List.take_of_length_le (by omega)
      rw [e, frL_all hl w] at this
      have hc := w.I1 (st.first + (q : Nat))
      have hin : st.inR (st.first + (q : Nat)) := by unfold FSt.inR; omega
      have hcnt : st.cnt (st.first + (q : Nat)) = (st.counts[q]?).getD 0 := by
        unfold FSt.cnt
        rw [if_pos hin]
        congr 2
        omega
      have hle := w.cnt_le (st.first + (q : Nat))
      rw [hcnt] at hle hc
      unfold usedM at this
      have ey := Option.some.inj this
      simp only at ey
      by_cases hz : (st.counts[q]?).getD 0 = 0
      · rw [if_pos ⟨hin, hz⟩] at hc
        rw [if_neg (fun h => by omega)] at ey
        simp [ey, hc]
      · rw [if_neg (fun h => hz h.2)] at hc
        rw [if_pos ⟨hql, by omega⟩] at ey
        simp [ey, hc]
    rw [hone]
    simp (disch := omega) only [i, sh, sh2]
    exact hK _ _ S3
  | succ n =>
    have hf := List.getElem?_eq_getElem (show j < (frL st.harts rs CC st.common).length by omega)
    generalize (frL st.harts rs CC st.common)[j] = f at hf
    have RL := S3.row (E := slE) (V := LL) (l := (frL st.harts rs CC st.common).map (·.V)) (13 + 4) (zat 13 hT _ 4)
    have hjl : ((frL st.harts rs CC st.common).map (·.V))[j]? = some f.V := by rw [List.getElem?_map, hf]; rfl
    obtain ⟨b1, o1, e1, e2⟩ := RL.fl hjl
    have hix := RL.ix (k := .i64) (List.getElem?_eq_some_iff.1 hjl).1
    rw [e1, he1] at hix
    have cf := (frL_row S3 hf).cell
    have hld : cellO none o1 (h3.get b1) = some f.V := by have := e2 0 _ rfl; rw [cellOr_eq cf] at this; exact this
    simp (disch := omega) only [L28_6, J28_7, J28_8, i, sh, sh2, shi, dec, hix, hld]
    refine right_list hl w hf rfl S3 M3 (by omega) fun h' pl' S' M' => ⟨n, by omega, j + 1, pl', rfl, by omega, S', ?_⟩
    rw [flat_step hf]
    exact M'
end
end Go.Proofs.Ytoajcekgoalhjaa
