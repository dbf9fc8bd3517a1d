/-
  parapetlaw15's own functions; its ops.
-/
import Derived.Test.YtoajcekgoalhjaaBfC
import Derived.Test.YtoajcekgoalhjaaLm6x
import Derived.Test.YtoajcekgoalhjaaBfL
set_option linter.all false
namespace Go.Proofs.Ytoajcekgoalhjaa
open Go.ChangeShapes Go.WideShapes Go.ChangeAt Go.RowKit Go.Lm
set_option linter.unusedSimpArgs false
set_option maxRecDepth 10000
theorem bs33 (h : LHeap) (x : Int) : buildSliceL Try.prog 33 1 [(0, .int .u8 x)] h = some (.slice h.next 0 1 (.ex 1), h.alloc (.cells [.int .u8 x] .ex)) := nr (by kernel_rfl)
structure OpX where
  k : Int
  n : Int
  x : Int
  s : Int
def opE : Enc OpX := ⟨fun o => [i o.k, i o.n, .int .u8 o.x, i o.s], 4, fun _ => rfl, fun o v h => by
  simp only [List.mem_cons, List.not_mem_nil, or_false] at h
  rcases h with rfl | rfl | rfl | rfl <;> rfl, by decide⟩
theorem ty22 : Try.prog.underlying 22 = some (.slice 32) := by kernel_rfl
theorem u5 : Try.prog.underlying 5 = some (.int .u8) := by kernel_rfl
theorem by32 : Try.prog.bytesOf 32 = 32 := by kernel_rfl
theorem shp_ops {g : LHeap} {n : Nat} {V : LV} (h : SlShp Try.prog g (n + 2) 32 V) : ∃ ops, Row g V opE ops ∧ ops.length * 32 ≤ 140737488351232 := by
  obtain ⟨ops, h1, h2, _, _, h4⟩ := shp_row (E := opE) (Q := fun _ : OpX => True) (fun ys hy => by
    obtain ⟨xss, rfl, hA⟩ := shp_fields Try.underlying32 hy
    obtain ⟨a, _, rfl, _, _, hA⟩ := alls_int u3 hA
    obtain ⟨b, _, rfl, _, _, hA⟩ := alls_int u3 hA
    obtain ⟨x, _, rfl, _, _, hA⟩ := alls_int u5 hA
    obtain ⟨m, _, rfl, _, _, hA⟩ := alls_int u3 hA
    obtain rfl := alls_nil hA
    exact ⟨⟨a, b, x, m⟩, rfl, trivial⟩) h
  rw [by32] at h4
  exact ⟨ops, h1, h4⟩
theorem new_op (h : LHeap) (o : OpX) : ∃ N, newL (.agg [.int .i64 0, .int .i64 0, .int .u8 0, .int .i64 0]) h = some (.ptr h.next 0, N) ∧ storeV 4 (.ptr h.next 0) (.agg (opE.f o)) N = some (h.alloc (.cells (opE.f o) .ex)) := by
  refine ⟨_, new_agg _ _ (by simp [LV.cell]), ?_⟩
  show storeV 4 _ (.agg [i o.k, i o.n, .int .u8 o.x, i o.s]) _ = _
  simp only [sh2, shc, i]
  rfl
theorem op_c (o : OpX) : cellO none 0 (some (.cells (opE.f o) .ex)) = some (.int .i64 o.k) ∧ cellO none 1 (some (.cells (opE.f o) .ex)) = some (.int .i64 o.n) ∧ cellO none 2 (some (.cells (opE.f o) .ex)) = some (.int .u8 o.x) := ⟨rfl, rfl, rfl⟩
section
variable {F : Nat → Prop} {g h h' : LHeap} {Ts Us : List Thing}
theorem Sep.join (S1 : Sep F g h Ts) (S2 : Sep noF h h' Us) : Sep F g h' (Us ++ Ts) := by
  refine Go.Lm.Sep.frame (Ts := []) (Zs := Ts) S1 ?_
  have e : ownL [] = noF := by
    funext a
    exact propext ⟨fun ⟨U, hU, _⟩ => (by cases hU), fun h => False.elim h⟩
  rw [e]; exact S2
theorem full_ok (Sp : Sep F g h Ts) (x : Int) : Ok Try.prog 16 [.int .u8 x, .int .i64 0] h fun V h' => V.cell = true ∧ Sep F g h' (Ts ++ [Thing.vec byteE V (List.replicate 512 x)]) ∧ Fr noF h h' := by
  refine ok16 fun wf _ => ?_
  have S1 : Sep noF h h ([] ++ [Thing.vec byteE .nils []]) := (Sep.start noF h).nils byteE
  simp (disch := omega) only [F16, J16_0, J16_1, J16_3]
  have hrem : ∀ K : LV → Prop, K (.int .i64 0) → vK (binL Try.prog .rem 3 true (.int .i64 0) (.int .i64 2)) K := fun K hK => by
    rw [binL_rem_int _ _ _ _ _ (by decide)]; exact hK
  refine loop_n (fun n s h1 => ∃ (j : Nat) (V : LV), s = (V, i (j : Int)) ∧ j + n = 512 ∧ Sep noF h h1 [Thing.vec byteE V (List.replicate j x)]) (n := 512) ⟨0, .nils, rfl, rfl, S1⟩ ?_
  rintro n s h1 ⟨j, V, rfl, hj, Sj⟩
  cases n with
  | zero =>
    obtain rfl : j = 512 := by omega
    simp only [L16_4]
    refine hrem _ ?_
    simp (disch := omega) only [J16_2, i, sh, sh2, shi, dec]
    have S2 := Sep.join Sp Sj
    exact ⟨(Sj.row (V := V) (E := byteE) 0 rfl).cell, S2.perm List.perm_append_comm, Sj.fr⟩
  | succ n =>
    obtain ⟨O', h2, ea, S3, cO, _, _⟩ := Sj.push (V := V) (E := byteE) (l := List.replicate j x) 0 rfl (bytes := 1) x (cs := [.int .u8 x]) rfl (by simp; omega)
    have hap := ap33 (V := V) (U := .slice h1.next 0 1 (.ex 1)) rfl (h1.alloc (.cells [.int .u8 x] .ex))
    have he : byteE.e = 1 := rfl
    rw [he] at ea
    rw [ea] at hap
    have hbs := bs33 h1 x
    simp only [L16_4]
    refine hrem _ ?_
    simp (disch := omega) only [i, sh, sh2, shi, dec, hbs, hap]
    refine ⟨n, by omega, j + 1, O', by simp, by omega, ?_⟩
    rw [List.replicate_succ']
    exact S3
theorem same_ok {V U : LV} {l m : List Int} (R : Row h V byteE l) (Q : Row h U byteE m) (hml : l.length < 2 ^ 60) : Ok Try.prog 14 [V, U] h fun v h' => v = .bool (decide (l = m)) ∧ h' = h := by
  refine ok14 fun wf _ => ?_
  have hl := R.len (P := Try.prog) ty33
  have hm := Q.len (P := Try.prog) ty33
  by_cases hlm : (l.length : Int) = m.length
  rotate_left
  · simp (disch := omega) only [F14, J14_0, i, sh, sh2, shi, dec, b_len, hl, hm]
    have : ¬ l = m := fun e => hlm (by rw [e])
    exact ⟨by rw [decide_eq_false this], trivial⟩
  simp (disch := omega) only [F14, J14_0, J14_1, J14_3, i, sh, sh2, shi, dec, b_len, hl, hm]
  refine loop_n (fun n s h1 => ∃ j : Nat, s = i (j : Int) ∧ j + n = l.length ∧ h1 = h ∧ (l = m ↔ l.drop j = m.drop j)) (n := l.length) ⟨0, rfl, by omega, rfl, by simp⟩ ?_
  rintro n s h ⟨j, rfl, hj, rfl, hi⟩
  cases n with
  | zero =>
    rw [List.drop_of_length_le (by omega), List.drop_of_length_le (by omega)] at hi
    simp (disch := omega) only [L14_4, J14_2, i, sh, sh2, shi, dec, b_len, hl]
    exact ⟨by rw [decide_eq_true (hi.2 rfl)], trivial⟩
  | succ n =>
    obtain ⟨x, hx, hd⟩ := drop_at (l := l) (k := j) (by omega)
    obtain ⟨y, hy, hd'⟩ := drop_at (l := m) (k := j) (by omega)
    have hix := R.ix (k := .i64) (i := j) (by omega)
    have hix' := Q.ix (k := .i64) (i := j) (by omega)
    have hld := R.ld1 hx rfl rfl
    have hld' := Q.ld1 hy rfl rfl
    have e1 : byteE.e = 1 := rfl
    rw [e1] at hix hix'
    rw [hd, hd', List.cons.injEq] at hi
    by_cases hxy : x = y
    · subst hxy
      simp (disch := omega) only [L14_4, i, sh, sh2, shi, dec, b_len, hl, hix, hix', hld, hld']
      exact ⟨n, by omega, j + 1, by simp, by omega, trivial, by simpa using hi⟩
    · simp (disch := omega) only [L14_4, i, sh, sh2, shi, dec, b_len, hl, hix, hix', hld, hld']
      exact ⟨by rw [decide_eq_false (by rw [hi]; exact fun h => hxy h.1)], trivial⟩
end
end Go.Proofs.Ytoajcekgoalhjaa
