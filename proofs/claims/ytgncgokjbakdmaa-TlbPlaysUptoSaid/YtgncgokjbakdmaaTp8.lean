/-
  parapetref07: Handle.
-/
import Derived.Test.YtgncgokjbakdmaaTp7
set_option linter.all false
namespace Go.Proofs.Ytgncgokjbakdmaa
open Go.ChangeShapes Go.WideShapes Go.ChangeAt Go.RowKit Go.Lm
set_option linter.unusedSimpArgs false
set_option maxRecDepth 10000
def hupto (a : Int) (st : RSt) (j : Nat) : RSt := (List.range j).foldl (hstep a) st
theorem hupto_succ (a : Int) (st : RSt) (j : Nat) : hupto a st (j + 1) = hstep a (hupto a st j) j := by
  rw [hupto, List.range_succ, List.foldl_append]; rfl
theorem hupto_len (a : Int) (st : RSt) : ∀ j, (hupto a st j).all.length = st.all.length
  | 0 => rfl
  | j + 1 => by rw [hupto_succ, hstep_len, hupto_len a st j]
theorem hupto_at (a : Int) (st : RSt) : ∀ j m, j ≤ m → (hupto a st j).all[m]? = st.all[m]?
  | 0, _, _ => rfl
  | j + 1, m, h => by rw [hupto_succ, hstep_other _ _ (by omega), hupto_at a st j m (by omega)]
theorem rflush_all (st : RSt) (a sp : Int) : (rflush st a sp).all = st.all := by
  unfold rflush; split <;> rfl
section
variable {F : Nat → Prop} {g h h' : LHeap} {x k : Nat} {size : Int} {HV AV : LV} {hs : List RH} {ss : List SX} {Zs : List Thing} {st : RSt} {S : Nat → Prop}
theorem RHandle_ok (B : (RBox x S st).ok g) (lt : ∀ a, S a → a < g.next) (a : Int) : Ok Try.prog 57 [.ptr x 0, i a] g fun v h => v = i (pendTo st a st.all.length).length ∧ ∃ S', Sep S g h [RBox x S' (hupto a st st.all.length)] := by
  refine ok57 fun wf _ => ?_
  have S0 : Sep S g g [RBox x S st] := Sep.one B fun a ha => ⟨ha, lt a ha⟩
  have hall : st.all.length ≤ 1048576 := by
    obtain ⟨Ts, ⟨_, _, _, _, _, _, _, _, w⟩, _⟩ := B
    exact w.al
  simp (disch := omega) only [F57, J57_0, J57_1, J57_3, i]
  refine loop_n (fun n s h => ∃ (j : Nat) (S' : Nat → Prop), s = (i (pendTo st a j).length, i (j : Int)) ∧ j + n = st.all.length ∧ Sep S g h [RBox x S' (hupto a st j)]) (n := st.all.length) ⟨0, S, by simp [pendTo], by omega, S0⟩ ?_
  rintro n s h ⟨j, S', rfl, hj, Sj⟩
  obtain ⟨HV, AV, hs, ss, Sp, hh, hal, hid, w⟩ := RAt.of Sj
  have hlj := hupto_len a st j
  have hls : ss.length = st.all.length := by rw [← hlj, ← hal, List.length_map]
  have x0 := Sp.cell (a := x) (vs := [i (hupto a st j).size, HV, AV]) 0 rfl
  have hl := all_len Sp
  rw [hls] at hl
  simp only [i] at x0
  cases n with
  | zero =>
    obtain rfl : j = st.all.length := by omega
    simp (disch := omega) only [L57_4, J57_2, i, sh, sh2, shi, dec, x0, b_len, hl]
    exact ⟨trivial, S', Sj⟩
  | succ n =>
    have hjl : j < (hupto a st j).all.length := by omega
    obtain ⟨s, e1, e2⟩ := ss_at hal hjl
    have e3 : st.all[j]? = some (s.sp, s.left) := by rw [← hupto_at a st j j (Nat.le_refl _)]; exact e2
    obtain ⟨f1, f2, pa, po, f3, f4, f5, f6⟩ := sh_at e1 Sp
    have h8 := w.le _ (List.mem_of_getElem? e2)
    have hsucc := pendTo_succ st a j e3
    have hpl := pendTo_len st a j
    simp (disch := omega) only [L57_4, J57_5, i, sh, sh2, shi, dec, x0, b_len, hl, f1, f3, f6]
    refine (rhas_ok f2 (Nat.le_trans h8 (by decide)) a).mono ?_
    rintro _ h ⟨rfl, rfl⟩
    by_cases ha : a ∈ s.left
    rotate_left
    · rw [decide_eq_false ha]
      simp (disch := omega) only [sh, sh2, J57_6, shi, dec]
      refine ⟨n, by omega, j + 1, S', ?_, by omega, ?_⟩
      · rw [hsucc, if_neg ha, List.append_nil]; simp
      · have : hupto a st (j + 1) = hupto a st j := by rw [hupto_succ, hstep, e2]; simp only [if_neg ha]
        rw [this]; exact Sj
    rw [decide_eq_true ha]
    simp (disch := omega) only [sh, sh2, J57_7, J57_8, i, shi, dec, x0, f1, f3, f5]
    refine (RFlush_ok (x := x) (S := S') (st := hupto a st j) (Sj.at 0 rfl) (Sj.boxlt (D := RD x) (S := S') (x := hupto a st j) 0 rfl) a s.sp).mono ?_
    rintro _ h2 ⟨rfl, A⟩
    obtain ⟨S2', S2⟩ := Sj.call (D := RD x) (S := S') (x := hupto a st j) 0 rfl A
    have S2 : Sep S g h2 [RBox x S2' (rflush (hupto a st j) a s.sp)] := S2
    obtain ⟨HV, AV, hs, ss, Sp, hh, hal, hid, w⟩ := RAt.of S2
    have ra := rflush_all (hupto a st j) a s.sp
    obtain ⟨s', e1, e4⟩ := ss_at hal (by rw [ra]; exact hjl)
    rw [ra, e2] at e4
    simp only [Option.some.injEq, Prod.mk.injEq] at e4
    obtain ⟨e5, e6⟩ := e4
    have hls : ss.length = st.all.length := by rw [← hlj, ← ra, ← hal, List.length_map]
    simp (disch := omega) only [J57_9, J57_10, J57_12]
    have S3 := Sp.nils intE
    refine loop_n (fun n s h => ∃ (q : Nat) (V : LV), s = (V, i (q : Int)) ∧ q + n = s'.left.length ∧ Sep S g h (RTs x (rflush (hupto a st j) a (SX.sp s')).size HV AV hs ss ++ [] ++ [Thing.vec intE V (offH a (s'.left.take q))])) (n := s'.left.length) ⟨0, .nils, rfl, by omega, by rw [← e5]; simpa [offH] using S3⟩ ?_
    rintro n' s9 h ⟨q, V, rfl, hq, Sq⟩
    have x9 := Sq.cell (a := x) (vs := [i (rflush (hupto a st j) a s'.sp).size, HV, AV]) 0 rfl
    have Sq' : Sep S g h (RTs x (rflush (hupto a st j) a s'.sp).size HV AV hs ss ++ [Thing.vec intE V (offH a (s'.left.take q))]) := by rw [List.append_nil] at Sq; exact Sq
    obtain ⟨f1, f2, pa, po, f3, f4, f5, f6⟩ := sh_at e1 Sq'
    have hln := f2.len (P := Try.prog) ty24
    have h8' : s'.left.length ≤ 8 := by rw [← e6]; exact h8
    have he : intE.e = 1 := rfl
    simp only [i] at x9
    cases n' with
    | zero =>
      rw [List.take_of_length_le (by omega)] at Sq
      have cV : V.cell = true := (Sq.row (V := V) (E := intE) (l := offH a s'.left) _ last_at).cell
      obtain ⟨pa', po', H, g1, g2, S4, _⟩ := rset_s e1 cV Sq
      rw [f3] at g1
      cases g1
      simp (disch := omega) only [L57_13, J57_11, J57_6, i, sh, sh2, shi, dec, x9, b_len, hln, f1, f3, f6, g2]
      have hst : hupto a st (j + 1) = { rflush (hupto a st j) a s.sp with all := (hupto a st j).all.set j (s.sp, offH a s.left) } := by
        rw [hupto_succ, hstep, e2]; simp only [if_pos ha]
      have A : RAt S g H x (hupto a st (j + 1)) [] := by
        rw [hst]
        refine ⟨HV, AV, hs, _, by rw [e5]; exact S4, by rw [hh], ?_, fun m s9 hm => ?_, ?_⟩
        · rw [List.map_set, hal, ra]
          show (hupto a st j).all.set j (s'.sp, offH a s'.left) = _
          rw [e5, e6]
        · rw [List.getElem?_set] at hm
          split at hm
          · split at hm
            · cases hm
              rename_i hjm _
              subst hjm
              exact hid j s' e1
            · cases hm
          · exact hid m s9 hm
        · refine ⟨w.s1, w.s2, w.h8, w.nd, by rw [List.length_set, hlj]; exact hall, fun p hp => ?_⟩
          rcases List.mem_or_eq_of_mem_set hp with h | rfl
          · exact w.le p (by rw [ra]; exact h)
          · exact Nat.le_trans (List.length_filter_le _ _) h8
      obtain ⟨S', S5⟩ := A.to_box
      refine ⟨n, by omega, j + 1, S', ?_, by omega, S5⟩
      rw [hsucc, if_pos ha]
      simp
    | succ n' =>
      obtain ⟨y, hy, hd⟩ := drop_at (l := s'.left) (k := q) (by omega)
      have hix := f2.ix (k := .i64) (i := q) (by omega)
      have hld := f2.ld1 hy rfl rfl
      rw [he] at hix
      have htk : offH a (s'.left.take (q + 1)) = offH a (s'.left.take q) ++ (if y = a then [] else [y]) := by
        rw [take_snoc hy, offH, List.filter_append, List.filter_cons]
        by_cases h : y = a <;> simp [h, offH]
      by_cases hya : y = a
      · simp (disch := omega) only [L57_13, i, sh, sh2, shi, dec, x9, b_len, hln, f1, f3, f6, hix, hld]
        refine ⟨n', by omega, q + 1, V, by simp, by omega, ?_⟩
        rw [htk, if_pos hya, List.append_nil (offH _ _)]
        exact Sq
      · have hfl : (offH a (s'.left.take q)).length ≤ s'.left.length := Nat.le_trans (List.length_filter_le _ _) (by rw [List.length_take]; omega)
        obtain ⟨V', h3, ea, S4, cV, _, _⟩ := Sq.push (V := V) (E := intE) (l := offH a (s'.left.take q)) _ last_at (bytes := 8) y (cs := [.int .i64 y]) rfl (by omega)
        rw [set_last] at S4
        rw [he] at ea
        have hap := ap24 (V := V) (U := .slice h.next 0 1 (.ex 1)) rfl (h.alloc (.cells [.int .i64 y] .ex))
        rw [ea] at hap
        have hbs := bs24_1' h y
        simp (disch := omega) only [L57_13, i, sh, sh2, shi, dec, x9, b_len, hln, f1, f3, f6, hix, hld, hbs, hap]
        refine ⟨n', by omega, q + 1, V', by simp, by omega, ?_⟩
        rw [htk, if_neg hya]
        exact S4
end
end Go.Proofs.Ytgncgokjbakdmaa
