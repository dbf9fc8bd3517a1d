/-
  frame, the law: awake, zero.
-/
import Derived.Test.YtoajcekgoalhjaaFrH
set_option linter.all false
namespace Go.Proofs.Ytoajcekgoalhjaa
open Go.ChangeShapes Go.WideShapes Go.ChangeAt Go.RowKit Go.Lm
set_option linter.unusedSimpArgs false
set_option linter.unusedVariables false
set_option maxRecDepth 10000
section
variable {F : Nat → Prop} {g h h' : LHeap} {x m a k c : Nat} {cs : List LV} {CV CC : LV} {counts common bs bs' : List Int} {rs : List FX} {r : FX} {Zs : List Thing} {st : FSt} {S : Nat → Prop} {Ls : List LV} {V U : LV} {l l1 l2 : List Int}
theorem frNew_at {n harts : Nat} {first : Int} {Ys : List Thing} (Sp : Sep F g h (memTs m a bs ++ Ys)) (b1 : bs.length ≤ 1048576) (b2 : 256 ≤ bs.length) (b3 : bs.length % 256 = 0) (hn : newOk ((bs.length / 256 : Nat) : Int) first n harts) :
    Ok Try.prog 21 [.ptr m 0, i first, i n, i harts] h fun v h' => ∃ x S', v = .tuple [.ptr x 0, i 0] ∧ Sep F g h' (FBox x m S' (newS first n harts bs) :: Ys) := by
  refine (frNew_ok Sp.self b1 b2 b3 hn).mono ?_
  rintro v h' ⟨x, S', rfl, S2⟩
  exact ⟨x, S', rfl, Sp.frame S2⟩
theorem row_lit7 (g : LHeap) : Row (g.alloc (.cells [i 4, i 5, i 6, i 7, i 8, i 9, i 10] .ex)) (.slice g.next 0 7 (.ex 7)) intE [4, 5, 6, 7, 8, 9, 10] := Row.of (get_alloc_eq _ _) rfl rfl (Nat.le_refl 7)
theorem fp_n : Try.prog.underlying 47 = some (.pointer 62) := fp_t
theorem awake_ok : Ok Try.prog 19 [] g fun v h => v = .bool true ∧ Fr noF g h := by
  refine ok19 fun _ _ => ?_
  have l24 : (zerosB (256 * (24 : Int).toNat)).length = 6144 := by unfold zerosB; rw [List.length_replicate]; rfl
  simp (disch := omega) only [F19]
  refine (memNew_ok (x := 24) (by omega) (by omega)).mono ?_
  rintro _ h1 ⟨m, a, rfl, S1⟩
  generalize zerosB (256 * (24 : Int).toNat) = bs at *
  rw [← List.append_nil (memTs m a bs)] at S1
  simp (disch := omega) only [i, sh, sh2, shi, dec, nil_p ph_tp true]
  refine (frNew_at (n := 20) (harts := 2) (first := 4) S1 (by omega) (by omega) (by omega) (by unfold newOk; omega)).mono ?_
  rintro _ h2 ⟨x, S', rfl, S2⟩
  simp (disch := omega) only [i, sh, sh2, shi, dec, nil_p fp_t true]
  refine All_ok.mono ?_
  rintro _ h3 ⟨rfl, rfl⟩
  have S3 := S2.temp (.cells [.ptr x 0] .ex)
  generalize h2.alloc (.cells [.ptr x 0] .ex) = h3 at S3
  simp (disch := omega) only [i, sh, sh2, shi, dec, fneq]
  refine All_nil.mono ?_
  rintro _ h4 ⟨rfl, rfl⟩
  have S4 := S3.temp (.cells [.nilp] .ex)
  generalize h3.alloc (.cells [.nilp] .ex) = h4 at S4
  simp (disch := omega) only [i, sh, sh2, shi, dec, fneq]
  refine (Alloc_ok (S4.at 0 rfl) (S4.boxlt 0 rfl) 0).mono ?_
  rintro _ h5 ⟨rfl, A5⟩
  rw [ex1]
  obtain ⟨S5', S5⟩ := S4.call 0 rfl A5
  simp (disch := omega) only [i, sh, sh2, shi, dec]
  have S5 : Sep noF g h5 [FBox x m S5' (allocS (newS 4 20 2 bs) 0).1] := S5
  refine (listB (S5.at 0 rfl) (S5.boxlt 0 rfl) 0).mono ?_
  rintro L1 h6 ⟨O6, M6, f6⟩
  rw [ex2] at O6
  have S6 := S5.vec L1 O6.row O6.grow M6 f6 O6.lo
  have S6 : Sep noF g h6 [FBox x m S5' (allocS (newS 4 20 2 bs) 0).1, Thing.vec intE L1 [4, 5, 6, 7, 8, 9, 10]] := S6
  refine (Decr_ok (S6.at 0 rfl) (S6.boxlt 0 rfl) 1 11 (by omega) (by omega)).mono ?_
  rintro _ h7 ⟨rfl, A7⟩
  rw [ex3]
  obtain ⟨S7', S7⟩ := S6.call 0 rfl A7
  have S7 : Sep noF g h7 [FBox x m S7' (decrS (allocS (newS 4 20 2 bs) 0).1 1 11).1, Thing.vec intE L1 [4, 5, 6, 7, 8, 9, 10]] := S7
  simp (disch := omega) only [i, sh, sh2, shi, dec, bs7]
  have S8 := S7.temp (.cells [.int .i64 4, .int .i64 5, .int .i64 6, .int .i64 7, .int .i64 8, .int .i64 9, .int .i64 10] .ex)
  have R8 := row_lit7 h7
  simp only [i] at R8
  generalize h7.alloc (.cells [.int .i64 4, .int .i64 5, .int .i64 6, .int .i64 7, .int .i64 8, .int .i64 9, .int .i64 10] .ex) = h8 at S8 R8
  refine (same51_ok (S8.row (E := intE) (V := L1) (l := [4, 5, 6, 7, 8, 9, 10]) 1 rfl) R8 (by simp) (by simp)).mono ?_
  rintro _ h8 ⟨rfl, rfl⟩
  have hd : ∀ l : List Int, decide (l = l) = true := fun l => decide_eq_true rfl
  simp (disch := omega) only [i, sh, sh2, shi, dec, hd]
  refine (listB (S8.at 0 rfl) (S8.boxlt 0 rfl) 1).mono ?_
  rintro L2 h9 ⟨O9, M9, f9⟩
  rw [ex4] at O9
  have S9 := S8.vec L2 O9.row O9.grow M9 f9 O9.lo
  have S9 : Sep noF g h9 [FBox x m S7' (decrS (allocS (newS 4 20 2 bs) 0).1 1 11).1, Thing.vec intE L1 [4, 5, 6, 7, 8, 9, 10], Thing.vec intE L2 [11]] := S9
  have hb1 := bs50_1 11 h9
  simp only [i] at hb1
  have S10 := S9.temp (.cells [.int .i64 11] .ex)
  have R10 : Row (h9.alloc (.cells [.int .i64 11] .ex)) (.slice h9.next 0 1 (.ex 1)) intE [11] := Row.of (get_alloc_eq _ _) rfl rfl (Nat.le_refl 1)
  generalize h9.alloc (.cells [.int .i64 11] .ex) = h10 at *
  simp (disch := omega) only [i, sh, sh2, shi, dec, hb1]
  refine (same51_ok (S10.row (E := intE) (V := L2) (l := [11]) 2 rfl) R10 (by simp) (by simp)).mono ?_
  rintro _ h10 ⟨rfl, rfl⟩
  simp (disch := omega) only [i, sh, sh2, shi, dec, hd]
  refine (Right_ok (S10.at 0 rfl) (S10.boxlt 0 rfl)).mono ?_
  rintro _ h11 ⟨rfl, A11⟩
  obtain ⟨S11', S11⟩ := S10.call 0 rfl A11
  simp (disch := omega) only [i, sh, sh2, shi, dec]
  exact ⟨trivial, S11.fr⟩
/-- The memory of a box. -/
theorem frameM (B : (FBox x m S st).ok g) (lt : ∀ b, S b → b < g.next) (y : Int) : Ok Try.prog 57 [.ptr m 0, i y] g fun v h' => ∃ V, v = .tuple [V, i (if frameIn st.bs y then 0 else 10)] ∧ Vec byteE g.next h' V (if frameIn st.bs y then frameB st.bs y else []) ∧ Mine h' V ∧ Fr noF g h' := by
  obtain ⟨a, CV, CC, rs, Sp, hl, w⟩ := fr_open B lt
  exact Frame_ok (fr_m Sp w.b1 w.b2 w.b3) y
/-- zero: are all bytes of a frame 0? -/
def zeroP (bs : List Int) (y : Int) : Bool := decide (frameIn bs y) && (frameB bs y).all fun c => c == 0
theorem zero23_ok (B : (FBox x m S st).ok g) (lt : ∀ b, S b → b < g.next) (y : Int) : Ok Try.prog 23 [.ptr m 0, i y] g fun v h => v = .bool (zeroP st.bs y) ∧ Fr noF g h := by
  refine ok23 fun _ _ => ?_
  simp (disch := omega) only [F23, J23_0]
  refine (frameM B lt y).mono ?_
  rintro _ h1 ⟨V, rfl, O, mi, f⟩
  by_cases hy : frameIn st.bs y
  · rw [if_pos hy] at O ⊢
    have hl := O.row.len (P := Try.prog) ph_ts
    have h256 := frameB_len hy
    rw [h256] at hl
    unfold zeroP
    rw [decide_eq_true hy, Bool.true_and]
    simp (disch := omega) only [J23_1, J23_3, i, sh, sh2, shi, dec, b_len, hl]
    refine loop_n (fun n s h => ∃ k : Nat, s = i (k : Int) ∧ k + n = 256 ∧ h = h1 ∧ (frameB st.bs y).all (fun c => c == 0) = ((frameB st.bs y).drop k).all fun c => c == 0) (n := 256) ⟨0, rfl, by omega, rfl, by simp⟩ ?_
    rintro n s h ⟨k, rfl, hk, rfl, he⟩
    cases n with
    | zero =>
      rw [List.drop_of_length_le (by omega)] at he
      simp (disch := omega) only [L23_4, J23_2, i, sh, sh2, shi, dec, b_len, hl]
      refine ⟨?_, f⟩
      rw [he]; rfl
    | succ n =>
      obtain ⟨v, hv, hd⟩ := drop_at (l := frameB st.bs y) (k := k) (by omega)
      have hix := O.row.ix (k := .i64) (i := k) (by omega)
      have hld := O.row.ld1 hv rfl rfl
      have e1 : byteE.e = 1 := rfl
      rw [e1] at hix
      rw [hd, List.all_cons] at he
      by_cases hv0 : v = 0
      · have hq : (!(v == 0)) = false := by simp [hv0]
        simp (disch := omega) only [L23_4, i, sh, sh2, shi, dec, hix, hld, binL_neq_int, hq]
        refine ⟨n, by omega, k + 1, rfl, by omega, trivial, ?_⟩
        rw [he, hv0]; rfl
      · have hq : (!(v == 0)) = true := by simp [hv0]
        simp (disch := omega) only [L23_4, i, sh, sh2, shi, dec, hix, hld, binL_neq_int, hq]
        refine ⟨?_, f⟩
        rw [he]
        have : (v == 0) = false := by simp [hv0]
        rw [this]; rfl
  · rw [if_neg hy] at O ⊢
    have hl := O.row.len (P := Try.prog) ph_ts
    unfold zeroP
    rw [decide_eq_false hy, Bool.false_and]
    simp (disch := omega) only [J23_1, J23_3, i, sh, sh2, shi, dec, b_len, hl, List.length_nil]
    refine loop_n (fun n s h => s = i 0 ∧ h = h1) (n := 0) ⟨rfl, rfl⟩ ?_
    rintro n s h ⟨rfl, rfl⟩
    simp (disch := omega) only [L23_4, J23_2, i, sh, sh2, shi, dec]
    exact ⟨trivial, f⟩
end
end Go.Proofs.Ytoajcekgoalhjaa
