/-
  tlb and its reference: a step of the law.
-/
import Derived.Test.YtgncgokjbakdmaaTpD
import Derived.Test.YtgncgokjbakdmaaTlG
set_option linter.all false
namespace Go.Proofs.Ytgncgokjbakdmaa
open Go.ChangeShapes Go.WideShapes Go.ChangeAt Go.RowKit Go.Lm
set_option linter.unusedSimpArgs false
set_option maxRecDepth 10000
section
variable {F : Nat → Prop} {g h h' : LHeap} {t x : Nat} {st : TSt} {rs : RSt} {S R : Nat → Prop}
theorem new_op (h : LHeap) (o : OpX) : newL (.agg (opE.f o)) h = some (.ptr h.next 0, h.alloc (.cells (opE.f o) .ex)) := new_agg _ _ (opE.cell o)
theorem beq_b (b : Bool) : binL Try.prog .eql 4 false (.bool b) (.bool b) = some (.bool true) := by cases b <;> kernel_rfl
theorem alike_inR {a : Int} (A : Alike st rs) : st.inR a ↔ rs.inR a := by unfold TSt.inR RSt.inR; rw [A.harts]
def Both (F : Nat → Prop) (g h : LHeap) (t x : Nat) (n : Nat) : Prop := ∃ S R st rs, Sep F g h [TBox t S st, RBox x R rs] ∧ Alike st rs ∧ rs.all.length ≤ n
theorem hupto_all (a : Int) (st : RSt) (j : Nat) : (hupto a st j).all.length = st.all.length := hupto_len a st j
theorem rfill_all (st : RSt) (a : Int) (q : AKey) (e : Int) : (rfill st a q e).all = st.all := by unfold rfill; split <;> rfl
set_option maxHeartbeats 2000000 in
theorem step_any (wf : g.Wf) (A : Alike st rs) (Sp : Sep noF g h [TBox t S st, RBox x R rs]) (o : OpX) {ts : List Int} (RT : Row g o.T intE ts) (ltT : ∀ a, o.T.obj = some a → a < g.next) (hts : ts.length * 8 ≤ 140737488351232) (hn : rs.all.length < 1048576) :
    Ok Try.prog 33 [.ptr t 0, .ptr x 0, .agg (opE.f o)] h fun v h' => v = .bool true ∧ Both noF g h' t x (rs.all.length + 1) := by
  refine ok33 fun wfh _ => ?_
  have hnew := new_op h o
  have Sc := Sp.new (opE.f o)
  have xc := Sc.cell 2 rfl
  obtain ⟨c0, c1, c2, c3, c4, c5, c6⟩ := op_c o
  have hT : o.T.cell = true := RT.cell
  rw [if_pos hT] at c6
  have fin : ∀ {h' : LHeap} {S R : Nat → Prop} {st' : TSt} {rs' : RSt} {Zs : List Thing}, Sep noF g h' ([TBox t S st', RBox x R rs'] ++ Zs) → Alike st' rs' → rs'.all.length ≤ rs.all.length + 1 → Both noF g h' t x (rs.all.length + 1) := fun {h' S R st' rs' Zs} Sx A h => ⟨S, R, st', rs', Sx.sub (List.sublist_append_left _ _), A, h⟩
  have fe : ∀ a : Int, (a == a) = true := fun a => by simp
  by_cases k1 : o.kind = 1
  · simp (disch := omega) only [F33, hnew, i, sh, sh2, shi, dec, xc, c0, c1, c2]
    refine (Look_ok (Sc.at 0 rfl) (Sc.boxlt 0 rfl) o.hart o.key).mono ?_
    rintro _ h1 ⟨rfl, f1⟩
    have S1 := Sc.pure f1
    have x1 := S1.cell 2 rfl
    simp (disch := omega) only [i, sh, sh2, shi, dec, x1, c0, c1, c2]
    refine (RLook_ok (S1.at (T := RBox x R rs) 1 rfl) (S1.boxlt (D := RD x) (S := R) (x := rs) 1 rfl) o.hart o.key).mono ?_
    rintro _ h2 ⟨rfl, f2⟩
    have S2 := S1.pure f2
    rw [alike_hart A]
    have e1 := beq_b (lkp (rs.hart o.hart) o.key).isSome
    simp (disch := omega) only [u32V, binL_eql_int, fe, e1, i, sh, sh2, shi, dec]
    exact ⟨trivial, fin (Zs := [_]) S2 A (by omega)⟩
  by_cases k2 : o.kind = 2
  · simp (disch := omega) only [F33, hnew, i, sh, sh2, shi, dec, xc, c0, c1, c2, c4]
    refine ⟨(Fill_ok' (Sc.at 0 rfl) (Sc.boxlt 0 rfl) o.hart o.key o.e).mono ?_, trivial⟩
    rintro _ h1 ⟨rfl, A1⟩
    obtain ⟨S', S1⟩ := Sc.call 0 rfl A1
    have x1 := S1.cell 2 rfl
    simp (disch := omega) only [i, sh, sh2, shi, dec, x1, c0, c1, c2, c4, true_and]
    refine ⟨(RFill_ok (S1.at (T := RBox x R rs) 1 rfl) (S1.boxlt (D := RD x) (S := R) (x := rs) 1 rfl) o.hart o.key o.e).mono ?_, trivial⟩
    rintro _ h2 ⟨rfl, A2⟩
    obtain ⟨R', S2⟩ := S1.call (D := RD x) (S := R) (x := rs) 1 rfl A2
    have hi := alike_inR (a := o.hart) A
    simp (disch := omega) only [hi, binL_eql_int, fe, i, sh, sh2, shi, dec]
    exact ⟨trivial, fin (Zs := [_]) S2 (alike_fill A _ _ _) (by rw [rfill_all]; omega)⟩
  by_cases k3 : o.kind = 3
  · simp (disch := omega) only [F33, hnew, i, sh, sh2, shi, dec, xc, c0, c1, c3]
    refine ⟨(Flush_ok' (Sc.at 0 rfl) (Sc.boxlt 0 rfl) o.hart o.key.1).mono ?_, trivial⟩
    rintro _ h1 ⟨rfl, A1⟩
    obtain ⟨S', S1⟩ := Sc.call 0 rfl A1
    have x1 := S1.cell 2 rfl
    simp (disch := omega) only [i, sh, sh2, shi, dec, x1, c0, c1, c3, true_and]
    refine ⟨(RFlush_ok (S1.at (T := RBox x R rs) 1 rfl) (S1.boxlt (D := RD x) (S := R) (x := rs) 1 rfl) o.hart o.key.1).mono ?_, trivial⟩
    rintro _ h2 ⟨rfl, A2⟩
    obtain ⟨R', S2⟩ := S1.call (D := RD x) (S := R) (x := rs) 1 rfl A2
    rw [alike_hart A]
    simp (disch := omega) only [binL_eql_int, fe, i, sh, sh2, shi, dec]
    exact ⟨trivial, fin (Zs := [_]) S2 (alike_flush A _ _) (by rw [rflush_all]; omega)⟩
  by_cases k4 : o.kind = 4
  · have RT1 := RT.old wf Sc.fr
    have ltc : ∀ b, o.T.obj = some b → b < (h.alloc (.cells (opE.f o) .ex)).next := fun b hb => Nat.lt_of_lt_of_le (ltT b hb) Sc.fr.le
    obtain ⟨L0, h1, ea, S1, cL, _, _⟩ := Sc.clone' (bytes := 8) RT1 ltc (by omega)
    have ea : appendL 1 8 (.slice (h.alloc (.cells (opE.f o) .ex)).next 0 0 (.ex 0)) o.T ((h.alloc (.cells (opE.f o) .ex)).alloc (.cells [] .ex)) = some (L0, h1) := ea
    have eap := ap24 (V := .slice (h.alloc (.cells (opE.f o) .ex)).next 0 0 (.ex 0)) RT1.not_str ((h.alloc (.cells (opE.f o) .ex)).alloc (.cells [] .ex))
    have xb := (Sc.temp (.cells [] .ex)).cell (a := h.next) (vs := opE.f o) 2 rfl
    have x1 := S1.cell (a := h.next) (vs := opE.f o) 2 rfl
    simp (disch := omega) only [F33, hnew, i, sh, sh2, shi, dec, xc, c0, c1, c3, c6, bs24_0, true_and, xb, eap, ea, x1]
    have RL := S1.row (V := L0) (E := intE) (l := ts) 3 rfl
    have ltL : ∀ a, L0.obj = some a → a < h1.next := fun a ha => S1.lt 3 rfl (a := a) ha
    have hb1 : st.begun < 2147483647 := by have := A.begun; omega
    refine ⟨⟨⟨(Start_ok (S1.at (T := TBox t S st) 0 rfl) (S1.boxlt (D := TD t) (S := S) (x := st) 0 rfl) o.key.1 RL ltL (by omega)).mono ?_, trivial⟩, trivial⟩, trivial⟩
    rintro _ h2 (⟨hno, rfl, A1⟩ | ⟨_, hb, _⟩ | ⟨hok, _, rfl, A1⟩)
    · obtain ⟨S', S2⟩ := S1.call 0 rfl A1
      have x2 := S2.cell (a := h.next) (vs := opE.f o) 2 rfl
      simp (disch := omega) only [i, sh, sh2, shi, dec, x2, c3, c6]
      refine (RStart_ok (S2.at (T := RBox x R rs) 1 rfl) (S2.boxlt (D := RD x) (S := R) (x := rs) 1 rfl) o.key.1 (RT.old wf S2.fr) (fun b hb => Nat.lt_of_lt_of_le (ltT b hb) S2.fr.le) (fun b hb hR => ?_) (by omega) hn).mono ?_
      · rcases (S2.lo (RBox x R rs) (by simp) b hR).1 with h | h
        · exact h
        · exact absurd (ltT b hb) (by omega)
      rintro _ h3 (⟨_, rfl, rfl⟩ | ⟨hyes, _⟩)
      · simp (disch := omega) only [binL_eql_int, fe, i, sh, sh2, shi, dec]
        exact ⟨trivial, fin (Zs := [_, _]) S2 A (by omega)⟩
      · rw [A.harts] at hno; exact absurd hyes hno
    · omega
    · obtain ⟨S', S2⟩ := S1.call 0 rfl A1
      have x2 := S2.cell (a := h.next) (vs := opE.f o) 2 rfl
      simp (disch := omega) only [i, sh, sh2, shi, dec, x2, c3, c6]
      refine (RStart_ok (S2.at (T := RBox x R rs) 1 rfl) (S2.boxlt (D := RD x) (S := R) (x := rs) 1 rfl) o.key.1 (RT.old wf S2.fr) (fun b hb => Nat.lt_of_lt_of_le (ltT b hb) S2.fr.le) (fun b hb hR => ?_) (by omega) hn).mono ?_
      · rcases (S2.lo (RBox x R rs) (by simp) b hR).1 with h | h
        · exact h
        · exact absurd (ltT b hb) (by omega)
      rintro _ h3 (⟨hno, _⟩ | ⟨_, rfl, A2⟩)
      · rw [A.harts] at hok; exact absurd hok hno
      · obtain ⟨R', S3⟩ := S2.call (D := RD x) (S := R) (x := rs) 1 rfl A2
        rw [A.begun]
        simp (disch := omega) only [binL_eql_int, fe, i, sh, sh2, shi, dec]
        rw [A.harts] at hok
        exact ⟨trivial, fin (Zs := [_, _]) S3 (alike_start A _ hok) (by simp [rstart])⟩
  by_cases k5 : o.kind = 5
  · simp (disch := omega) only [F33, hnew, i, sh, sh2, shi, dec, xc, c0, c1, c3]
    refine ⟨(Handle_ok (Sc.at (T := TBox t S st) 0 rfl) (Sc.boxlt (D := TD t) (S := S) (x := st) 0 rfl) o.hart).mono ?_, trivial⟩
    rintro _ h1 ⟨l, PL, rfl, A1⟩
    obtain ⟨S', S1⟩ := Sc.call 0 rfl A1
    have x1 := S1.cell 2 rfl
    simp (disch := omega) only [i, sh, sh2, shi, dec, x1, c0, c1, c3, true_and]
    refine ⟨(RHandle_ok (S1.at (T := RBox x R rs) 1 rfl) (S1.boxlt (D := RD x) (S := R) (x := rs) 1 rfl) o.hart).mono ?_, trivial⟩
    rintro _ h2 ⟨rfl, R', S9⟩
    have S2 : Sep noF g h2 ([RBox x R' (hupto o.hart rs rs.all.length)] ++ [TBox t S' (l.foldl (handle1 o.hart.toNat) st), Thing.cells h.next (opE.f o)]) :=
      Sep.callF (T := RBox x R rs) (S1.perm (Us := [RBox x R rs, TBox t S' (l.foldl (handle1 o.hart.toNat) st), Thing.cells h.next (opE.f o)]) (.swap _ _ _)) rfl S9
    have S3 := S2.perm (Us := [TBox t S' (l.foldl (handle1 o.hart.toNat) st), RBox x R' (hupto o.hart rs rs.all.length), Thing.cells h.next (opE.f o)]) (.swap _ _ _)
    have hl := alike_pend A PL
    rw [← hl]
    simp (disch := omega) only [binL_eql_int, fe, i, sh, sh2, shi, dec]
    exact ⟨trivial, fin (Zs := [_]) S3 (alike_handle A PL) (by rw [hupto_all]; omega)⟩
  by_cases k6 : o.kind = 6
  · simp (disch := omega) only [F33, hnew, i, sh, sh2, shi, dec, xc, c0, c1, c5]
    refine ⟨(Over_ok (Sc.at (T := TBox t S st) 0 rfl) (Sc.boxlt (D := TD t) (S := S) (x := st) 0 rfl) o.n).mono ?_, trivial⟩
    rintro _ h1 ⟨rfl, f1⟩
    have S1 := Sc.pure f1
    have x1 := S1.cell 2 rfl
    simp (disch := omega) only [i, sh, sh2, shi, dec, x1, c0, c1, c5, true_and]
    refine ⟨(ROver_ok (S1.at (T := RBox x R rs) 1 rfl) (S1.boxlt (D := RD x) (S := R) (x := rs) 1 rfl) o.n).mono ?_, trivial⟩
    rintro _ h2 ⟨rfl, rfl⟩
    rw [alike_over A]
    simp (disch := omega) only [beq_b, i, sh, sh2, shi, dec]
    exact ⟨trivial, fin (Zs := [_]) S1 A (by omega)⟩
  · simp (disch := omega) only [F33, hnew, i, sh, sh2, shi, dec, xc, c0]
    refine (looks_any A (Sc.init (Ts := [_, _]))).mono ?_
    rintro _ h1 ⟨rfl, f1⟩
    exact ⟨rfl, fin (Zs := [_]) (Sc.pure f1) A (by omega)⟩
end
end Go.Proofs.Ytgncgokjbakdmaa
