/-
  frame, the law: sameInts, zero, awake.
-/
import Derived.Test.YtoajcekgoalhjaaFrF
set_option linter.all false
namespace Go.Proofs.Ytoajcekgoalhjaa
open Go.ChangeShapes Go.WideShapes Go.ChangeAt Go.RowKit Go.Lm
set_option linter.unusedSimpArgs false
set_option linter.unusedVariables false
set_option maxRecDepth 10000
section
variable {F : Nat → Prop} {g h h' : LHeap} {x m a k c : Nat} {cs : List LV} {CV CC : LV} {counts common bs bs' : List Int} {rs : List FX} {r : FX} {Zs : List Thing} {st : FSt} {S : Nat → Prop} {Ls : List LV} {V U : LV} {l l1 l2 : List Int}
theorem take_eq {l1 l2 : List Int} {k : Nat} {x y : Int} (h : l1.take k = l2.take k) (h1 : l1[k]? = some x) (h2 : l2[k]? = some y) : l1.take (k + 1) = l2.take (k + 1) ↔ x = y := by
  rw [take_step h1, take_step h2, h]
  simp
theorem same51_ok (R1 : Row g V intE l1) (R2 : Row g U intE l2) (hm : l1.length < 9223372036854775808) (hm2 : l2.length < 9223372036854775808) : Ok Try.prog 51 [V, U] g fun v h => v = .bool (decide (l1 = l2)) ∧ h = g := by
  refine ok51 fun _ _ => ?_
  have hl1 := R1.len (P := Try.prog) ty50
  have hl2 := R2.len (P := Try.prog) ty50
  by_cases hl : l1.length = l2.length
  · have hneq : binL Try.prog .neq 3 false (.int .i64 (l1.length : Int)) (.int .i64 (l2.length : Int)) = some (.bool false) := by
      rw [binL_neq_int]; simp [hl]
    simp (disch := omega) only [F51, J51_0, J51_1, J51_3, i, sh, sh2, shi, dec, b_len, hl1, hl2, hneq]
    refine loop_n (fun n s h => ∃ k : Nat, s = i (k : Int) ∧ k + n = l1.length ∧ h = g ∧ l1.take k = l2.take k) (n := l1.length) ⟨0, rfl, by omega, rfl, rfl⟩ ?_
    rintro n s h ⟨k, rfl, hk, rfl, he⟩
    cases n with
    | zero =>
      obtain rfl : k = l1.length := by omega
      simp (disch := omega) only [L51_4, J51_2, i, sh, sh2, shi, dec]
      rw [List.take_length, hl, List.take_length] at he
      exact ⟨by rw [decide_eq_true he], trivial⟩
    | succ n =>
      have h1 := List.getElem?_eq_getElem (show k < l1.length by omega)
      have h2 := List.getElem?_eq_getElem (show k < l2.length by omega)
      generalize l1[k] = y1 at h1
      generalize l2[k] = y2 at h2
      obtain ⟨b1, o1, ix1, ld1⟩ := at_ix R1 (by omega) y1 h1
      obtain ⟨b2, o2, ix2, ld2⟩ := at_ix R2 (by omega) y2 h2
      have ht := take_eq he h1 h2
      by_cases hy : y1 = y2
      · have hq : binL Try.prog .neq 3 false (.int .i64 y1) (.int .i64 y2) = some (.bool false) := by rw [binL_neq_int]; simp [hy]
        simp (disch := omega) only [L51_4, i, sh, sh2, shi, dec, ix1, ld1, ix2, ld2, hq]
        exact ⟨n, by omega, k + 1, rfl, by omega, trivial, ht.2 hy⟩
      · have hq : binL Try.prog .neq 3 false (.int .i64 y1) (.int .i64 y2) = some (.bool true) := by rw [binL_neq_int]; simp [hy]
        simp (disch := omega) only [L51_4, i, sh, sh2, shi, dec, ix1, ld1, ix2, ld2, hq]
        exact ⟨by rw [decide_eq_false fun e => hy (ht.1 (by rw [e]))], trivial⟩
  · have hneq : binL Try.prog .neq 3 false (.int .i64 (l1.length : Int)) (.int .i64 (l2.length : Int)) = some (.bool true) := by
      rw [binL_neq_int]
      have : ((l1.length : Int) == (l2.length : Int)) = false := by simp; omega
      rw [this]; rfl
    simp (disch := omega) only [F51, J51_0, i, sh, sh2, shi, dec, b_len, hl1, hl2, hneq]
    exact ⟨by rw [decide_eq_false fun e => hl (by rw [e])], trivial⟩
/-! Calls of a box. -/
theorem listB (B : (FBox x m S st).ok g) (lt : ∀ b, S b → b < g.next) (y : Int) : Ok Try.prog 31 [.ptr x 0, i y] g fun v h => Vec intE g.next h v (if st.isH y then st.listOf y.toNat else []) ∧ Mine h v ∧ Fr noF g h := by
  obtain ⟨a, CV, CC, rs, Sp, hl, w⟩ := fr_open B lt
  have h8 := fr8 hl w
  have hlen := fr_lens hl w
  have hfl := w.freeLe
  refine (list_ok Sp h8 w.h8 (by omega) y).mono ?_
  rintro v h ⟨O, mi, f⟩
  rw [hl] at O
  exact ⟨O, mi, f⟩
theorem listB_len (w : FWf st) (y : Int) : (if st.isH y then st.listOf y.toNat else []).length ≤ 4096 := by
  split
  · rename_i h
    have := w.h8
    unfold FSt.isH at h
    exact w.listLe (getD_some (by rw [w.l8]; omega))
  · simp
theorem commonB (B : (FBox x m S st).ok g) (lt : ∀ b, S b → b < g.next) : Ok Try.prog 32 [.ptr x 0] g fun v h => Vec intE g.next h v st.common ∧ Mine h v ∧ Fr noF g h := by
  obtain ⟨a, CV, CC, rs, Sp, hl, w⟩ := fr_open B lt
  have hfl := w.freeLe
  exact common_ok Sp (fr8 hl w) (by unfold FSt.freeN at hfl; omega)
theorem freeB (B : (FBox x m S st).ok g) (lt : ∀ b, S b → b < g.next) : Ok Try.prog 27 [.ptr x 0] g fun v h => v = i (st.freeN : Int) ∧ h = g := by
  obtain ⟨a, CV, CC, rs, Sp, hl, w⟩ := fr_open B lt
  have hlen := fr_lens hl w
  have hfl := w.freeLe
  have := free_ok Sp (fr8 hl w) (by omega)
  rw [hlen] at this
  exact this
theorem usedB (B : (FBox x m S st).ok g) (lt : ∀ b, S b → b < g.next) : Ok Try.prog 26 [.ptr x 0] g fun v h => v = i (usedL st.counts : Int) ∧ h = g := by
  obtain ⟨a, CV, CC, rs, Sp, hl, w⟩ := fr_open B lt
  have hlen := fr_lens hl w
  have hfl := w.freeLe
  have := used_ok Sp (fr8 hl w) (by omega) w.bounds.2.2
  rw [hlen] at this
  have e := w.I2
  have e2 : (st.counts.length : Int) - (st.freeN : Int) = usedL st.counts := by omega
  rw [e2] at this
  exact this
theorem countB (B : (FBox x m S st).ok g) (lt : ∀ b, S b → b < g.next) (y : Int) (y0 : -9223372036854775808 ≤ y) (y1 : y < 9223372036854775808) : Ok Try.prog 30 [.ptr x 0, i y] g fun v h => v = i (st.cnt y) ∧ h = g := by
  obtain ⟨a, CV, CC, rs, Sp, hl, w⟩ := fr_open B lt
  exact cnt_ok Sp hl w y y0 y1
theorem boxWf (B : (FBox x m S st).ok g) : FWf st := by
  obtain ⟨Ts, ⟨_, _, _, _, _, _, w⟩, _⟩ := B
  exact w
theorem All_nil : Ok Try.prog 33 [.nilp] g fun v h => v = .func (.func 65) [] [.ptr g.next 0] ∧ h = g.alloc (.cells [.nilp] .ex) := by
  refine ok33 fun _ _ => ?_
  have hn := new_cell (v := .nilp) g rfl
  simp (disch := omega) only [F33, sh, sh2, hn]
  exact ⟨trivial, trivial⟩
theorem fneq (a : Nat) : binL Try.prog .eql 69 true (.func (.func 65) [] [.ptr a 0]) .nilf = some (.bool false) := nr (by kernel_rfl)
theorem bs7 (g : LHeap) : buildSliceL Try.prog 50 7 [(0, .int .i64 4), (1, .int .i64 5), (2, .int .i64 6), (3, .int .i64 7), (4, .int .i64 8), (5, .int .i64 9), (6, .int .i64 10)] g = some (.slice g.next 0 7 (.ex 7), g.alloc (.cells [i 4, i 5, i 6, i 7, i 8, i 9, i 10] .ex)) := nr (by kernel_rfl)
theorem ex1 (bs : List Int) : (allocS (newS 4 20 2 bs) 0).2 = (11, 0) := nr (by kernel_rfl)
theorem ex2 (bs : List Int) : (if (allocS (newS 4 20 2 bs) 0).1.isH 0 then (allocS (newS 4 20 2 bs) 0).1.listOf (0 : Int).toNat else []) = [4, 5, 6, 7, 8, 9, 10] := nr (by kernel_rfl)
theorem ex3 (bs : List Int) : (decrS (allocS (newS 4 20 2 bs) 0).1 1 11).2 = (true, 0) := nr (by kernel_rfl)
theorem ex4 (bs : List Int) : (if (decrS (allocS (newS 4 20 2 bs) 0).1 1 11).1.isH 1 then (decrS (allocS (newS 4 20 2 bs) 0).1 1 11).1.listOf (1 : Int).toNat else []) = [11] := nr (by kernel_rfl)
end
end Go.Proofs.Ytoajcekgoalhjaa
