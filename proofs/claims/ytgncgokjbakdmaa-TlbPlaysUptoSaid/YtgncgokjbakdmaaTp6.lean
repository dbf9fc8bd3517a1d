/-
  parapetref07: Pending, New.
-/
import Derived.Test.YtgncgokjbakdmaaTp5
set_option linter.all false
namespace Go.Proofs.Ytgncgokjbakdmaa
open Go.ChangeShapes Go.WideShapes Go.ChangeAt Go.RowKit Go.Lm
set_option linter.unusedSimpArgs false
set_option maxRecDepth 10000
/-- The numbers of the shootdowns, from the first to the one ahead of j, that are pending at a hart. -/
def pendTo (st : RSt) (a : Int) (j : Nat) : List Int := ((List.range j).filter fun m => match st.all[m]? with
  | some p => decide (a ∈ p.2)
  | none => false).map fun (m : Nat) => (m : Int) + 1
theorem pendTo_len (st : RSt) (a : Int) (j : Nat) : (pendTo st a j).length ≤ j := by
  rw [pendTo, List.length_map]
  exact Nat.le_trans (List.length_filter_le _ _) (by simp)
theorem pendTo_succ (st : RSt) (a : Int) (j : Nat) {p : Int × List Int} (h : st.all[j]? = some p) : pendTo st a (j + 1) = pendTo st a j ++ (if a ∈ p.2 then [(j : Int) + 1] else []) := by
  rw [pendTo, List.range_succ, List.filter_append, List.map_append]
  congr 1
  rw [List.filter_cons, h]
  by_cases ha : a ∈ p.2 <;> simp [ha]
section
variable {F : Nat → Prop} {g h h' : LHeap} {x k : Nat} {size : Int} {HV AV : LV} {hs : List RH} {ss : List SX} {Zs : List Thing} {st : RSt} {S : Nat → Prop}
theorem bs24_1' (h : LHeap) (n : Int) : buildSliceL Try.prog 24 1 [(0, .int .i64 n)] h = some (.slice h.next 0 1 (.ex 1), h.alloc (.cells [.int .i64 n] .ex)) := bs24_1 h n
theorem RPend_ok (B : (RBox x S st).ok g) (lt : ∀ a, S a → a < g.next) (a : Int) : Ok Try.prog 60 [.ptr x 0, i a] g fun v h => Row h v intE (pendTo st a st.all.length) ∧ Fr noF g h := by
  refine ok60 fun wf _ => ?_
  obtain ⟨Ts, ⟨HV, AV, hs, ss, rfl, hh, hal, hid, w⟩, Sp⟩ := box_open B lt
  have hls : ss.length = st.all.length := by rw [← hal, List.length_map]
  have hall := w.al
  have he : intE.e = 1 := rfl
  simp (disch := omega) only [F60, J60_0, J60_1, J60_3, i]
  refine loop_n (fun n s h => ∃ (j : Nat) (V : LV), s = (V, i (j : Int)) ∧ j + n = st.all.length ∧ Sep noF g h [Thing.vec intE V (pendTo st a j)]) (n := st.all.length) ⟨0, .nils, rfl, by omega, by simpa [pendTo] using (Sep.start noF g).nils intE⟩ ?_
  rintro n s h ⟨j, V, rfl, hj, Sv⟩
  have Sj : Sep S g h (RTs x st.size HV AV hs ss ++ []) := by rw [List.append_nil]; exact Sp.pure Sv.fr
  have x0 := Sj.cell (a := x) (vs := [i st.size, HV, AV]) 0 rfl
  have hl := all_len Sj
  simp only [i] at x0
  cases n with
  | zero =>
    obtain rfl : j = st.all.length := by omega
    simp (disch := omega) only [L60_4, J60_2, i, sh, sh2, shi, dec, x0, b_len, hl]
    exact ⟨Sv.row (V := V) (E := intE) 0 rfl, Sv.fr⟩
  | succ n =>
    obtain ⟨s, e1, e2⟩ := ss_at (st := st) hal (j := j) (by omega)
    obtain ⟨f1, f2, pa, po, f3, f4, f5, f6⟩ := sh_at e1 Sj
    have h8 := w.le _ (List.mem_of_getElem? e2)
    have hsid := hid j s e1
    have hsucc := pendTo_succ st a j e2
    simp (disch := omega) only [L60_4, i, sh, sh2, shi, dec, x0, b_len, hl, f1, f3, f6]
    refine (rhas_ok f2 (Nat.le_trans h8 (by decide)) a).mono ?_
    rintro _ h ⟨rfl, rfl⟩
    by_cases ha : a ∈ s.left
    · rw [decide_eq_true ha]
      have hpl := pendTo_len st a j
      obtain ⟨V', h2, ea, S2, cV, n2, fr2, o2⟩ := Sv.push (V := V) (E := intE) (l := pendTo st a j) 0 rfl (bytes := 8) ((j : Int) + 1) (cs := [.int .i64 ((j : Int) + 1)]) rfl (by omega)
      rw [he] at ea
      have hap := ap24 (V := V) (U := .slice h.next 0 1 (.ex 1)) rfl (h.alloc (.cells [.int .i64 ((j : Int) + 1)] .ex))
      rw [ea] at hap
      have hbs := bs24_1' h ((j : Int) + 1)
      rw [hsid] at f4
      simp (disch := omega) only [sh, sh2, shi, dec, x0, b_len, hl, f1, f3, f4, hbs, hap]
      refine ⟨n, by omega, j + 1, V', by simp, by omega, ?_⟩
      rw [hsucc, if_pos ha]; exact S2
    · rw [decide_eq_false ha]
      simp (disch := omega) only [sh, sh2, shi, dec]
      refine ⟨n, by omega, j + 1, V, by simp, by omega, ?_⟩
      rw [hsucc, if_neg ha, List.append_nil (pendTo st a j)]; exact Sv
end
end Go.Proofs.Ytgncgokjbakdmaa
