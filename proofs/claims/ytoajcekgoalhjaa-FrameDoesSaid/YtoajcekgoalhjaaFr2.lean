/-
  frame: slices.
-/
import Derived.Test.YtoajcekgoalhjaaFr1
import Derived.Test.YtoajcekgoalhjaaFrR
import Derived.Test.YtoajcekgoalhjaaBfS
import Derived.Test.YtoajcekgoalhjaaLm7x
set_option linter.all false
namespace Go.Proofs.Ytoajcekgoalhjaa
open Go.ChangeShapes Go.WideShapes Go.ChangeAt Go.RowKit Go.Lm
set_option linter.unusedSimpArgs false
theorem ty50 : Try.prog.underlying 50 = some (.slice 3) := by kernel_rfl
theorem u3 : Try.prog.underlying 3 = some (.int .i64) := by kernel_rfl
/-- The first place that a test takes, or -1. -/
def firstOf {X : Type} (p : X → Bool) : List X → Int
  | [] => -1
  | y :: l => if p y = true then 0 else if firstOf p l = -1 then -1 else firstOf p l + 1
theorem firstOf_ge {X : Type} (p : X → Bool) : ∀ l : List X, -1 ≤ firstOf p l
  | [] => by simp [firstOf]
  | y :: l => by have := firstOf_ge p l; simp only [firstOf]; split; omega; split <;> omega
theorem firstOf_step {X : Type} {p : X → Bool} {y : X} {l : List X} {k : Nat} (h : p y = false) : (if firstOf p (y :: l) = -1 then (-1 : Int) else firstOf p (y :: l) + k) = (if firstOf p l = -1 then -1 else firstOf p l + (k + 1 : Nat)) := by
  have h1 := firstOf_ge p l
  simp only [firstOf, h, Bool.false_eq_true, if_false]
  by_cases he : firstOf p l = -1
  · simp [he]
  · rw [if_neg he, if_neg (by omega)]
    omega
set_option maxRecDepth 10000 in
theorem bs50_0 (h : LHeap) : buildSliceL Try.prog 50 0 [] h = some (.slice h.next 0 0 (.ex 0), h.alloc (.cells [] .ex)) := nr (by kernel_rfl)
theorem ap50 {V U : LV} (hU : U.isStr = false) (g : LHeap) : builtinL Try.prog .append [50, 50] [V, U] g = appendL 1 8 V U g := append_ok (by kernel_rfl) hU g
/-- slices.Clone -/
theorem clone64_ok {g : LHeap} {V : LV} {l} (R : Row g V intE l) (hb : l.length * 8 * 2 ≤ 2 ^ 48 ∨ (l.length * 5 + 2048) * 8 ≤ 2 ^ 50) : Ok Try.prog 64 [V] g fun v h => Vec intE g.next h v l ∧ Mine h v ∧ Fr noF g h := by
  refine ok64 fun wf lt => ?_
  rcases R.nil_or (P := Try.prog) ty50 true with ⟨rfl, rfl⟩ | ⟨_, hn, _⟩
  · simp (disch := omega) only [F64, sh, nil_s (P := Try.prog) ty50 true]
    exact ⟨Vec.nils _ _, trivial, Fr.refl _ _⟩
  · obtain ⟨V', h', e, O, mi, f⟩ := Vec.clone (E := intE) (bytes := 8) R wf hb
    have e : appendL 1 8 (.slice g.next 0 0 (.ex 0)) V (g.alloc (.cells [] .ex)) = some (V', h') := e
    simp (disch := omega) only [F64, sh, hn, bs50_0, ap50 R.not_str, e]
    exact ⟨O, mi, f⟩
theorem indexFuncM76_ok {g : LHeap} {V F : LV} {l : List Int} {p : Int → Bool} (R : Row g V intE l) (hm : l.length < 9223372036854775808) (hF : ∀ x K, x ∈ l → K (.bool (p x)) g → callV Try.prog (Ok Try.prog) F [i x] g K) : Ok Try.prog 76 [V, F] g fun v h => v = i (firstOf p l) ∧ h = g := by
  refine ok76 fun wf lt => ?_
  have hl := R.len ty50
  simp (disch := omega) only [F76, J76_0, J76_2, i, sh, sh2, shi, dec, b_len, hl]
  refine loop_n (fun n s h => ∃ k : Nat, s = i (k : Int) ∧ k + n = l.length ∧ h = g ∧ firstOf p l = (if firstOf p (l.drop k) = -1 then -1 else firstOf p (l.drop k) + k)) (n := l.length) ⟨0, rfl, by omega, rfl, by simp⟩ ?_
  rintro n s h ⟨k, rfl, hk, rfl, hi⟩
  cases n with
  | zero =>
    rw [List.drop_of_length_le (by omega)] at hi
    simp (disch := omega) only [L76_3, J76_1, i, sh, sh2, shi, dec]
    exact ⟨by rw [hi]; simp [firstOf], trivial⟩
  | succ n =>
    obtain ⟨y, hy, hd⟩ := drop_at (l := l) (k := k) (by omega)
    have hix := R.ix (k := .i64) (i := k) (by omega)
    have hld := R.ld1 hy rfl rfl
    have e1 : intE.e = 1 := rfl
    rw [e1] at hix
    rw [hd] at hi
    simp (disch := omega) only [L76_3, i, sh, sh2, shi, dec, hix, hld]
    refine hF y _ (List.mem_of_getElem? hy) ?_
    cases hp : p y with
    | true =>
      simp (disch := omega) only [i, sh, sh2, shi, dec]
      exact ⟨by rw [hi]; simp [firstOf, hp], trivial⟩
    | false =>
      simp (disch := omega) only [i, sh, sh2, shi, dec]
      refine ⟨n, by omega, k + 1, by simp, by omega, trivial, ?_⟩
      rw [hi]
      exact firstOf_step hp
theorem indexFuncM83_ok {g : LHeap} {V F : LV} {l : List Int} {p : Int → Bool} (R : Row g V byteE l) (hm : l.length < 9223372036854775808) (hF : ∀ x K, x ∈ l → K (.bool (p x)) g → callV Try.prog (Ok Try.prog) F [B8 x] g K) : Ok Try.prog 83 [V, F] g fun v h => v = i (firstOf p l) ∧ h = g := by
  refine ok83 fun wf lt => ?_
  have hl := R.len ph_ts
  simp (disch := omega) only [F83, J83_0, J83_2, i, sh, sh2, shi, dec, b_len, hl]
  refine loop_n (fun n s h => ∃ k : Nat, s = i (k : Int) ∧ k + n = l.length ∧ h = g ∧ firstOf p l = (if firstOf p (l.drop k) = -1 then -1 else firstOf p (l.drop k) + k)) (n := l.length) ⟨0, rfl, by omega, rfl, by simp⟩ ?_
  rintro n s h ⟨k, rfl, hk, rfl, hi⟩
  cases n with
  | zero =>
    rw [List.drop_of_length_le (by omega)] at hi
    simp (disch := omega) only [L83_3, J83_1, i, sh, sh2, shi, dec]
    exact ⟨by rw [hi]; simp [firstOf], trivial⟩
  | succ n =>
    obtain ⟨y, hy, hd⟩ := drop_at (l := l) (k := k) (by omega)
    have hix := R.ix (k := .i64) (i := k) (by omega)
    have hld := R.ld1 hy rfl rfl
    have e1 : byteE.e = 1 := rfl
    rw [e1] at hix
    rw [hd] at hi
    simp (disch := omega) only [L83_3, i, sh, sh2, shi, dec, hix, hld]
    refine hF y _ (List.mem_of_getElem? hy) ?_
    cases hp : p y with
    | true =>
      simp (disch := omega) only [i, sh, sh2, shi, dec]
      exact ⟨by rw [hi]; simp [firstOf, hp], trivial⟩
    | false =>
      simp (disch := omega) only [i, sh, sh2, shi, dec]
      refine ⟨n, by omega, k + 1, by simp, by omega, trivial, ?_⟩
      rw [hi]
      exact firstOf_step hp
theorem firstOf_iff {X : Type} (p : X → Bool) : ∀ l : List X, 0 ≤ firstOf p l ↔ l.any p = true
  | [] => by simp [firstOf]
  | y :: l => by
    have := firstOf_ge p l
    have ih := firstOf_iff p l
    have e : firstOf p (y :: l) = if p y = true then 0 else if firstOf p l = -1 then -1 else firstOf p l + 1 := rfl
    rw [e, List.any_cons]
    by_cases hp : p y = true
    · rw [if_pos hp, hp]; simp
    · rw [if_neg hp, Bool.eq_false_iff.2 hp, Bool.false_or, ← ih]
      by_cases h : firstOf p l = -1
      · rw [if_pos h, h]
      · rw [if_neg h]
        omega
theorem firstOf_has {X : Type} (p : X → Bool) (l : List X) : decide (0 ≤ firstOf p l) = l.any p := by
  rw [Bool.eq_iff_iff, decide_eq_true_iff, firstOf_iff]
theorem cv61 (x : LV) (h : LHeap) (K : LV → LHeap → Prop) : callV Try.prog (Ok Try.prog) (.func (.func 61) [] []) [x] h K = Ok Try.prog 61 [x] h K := callV_f (by kernel_rfl)
theorem cv63 (x : LV) (h : LHeap) (K : LV → LHeap → Prop) : callV Try.prog (Ok Try.prog) (.func (.func 63) [] []) [x] h K = Ok Try.prog 63 [x] h K := callV_f (by kernel_rfl)
section
variable {g : LHeap} {V : LV} {l : List Int}
theorem not0_ok (x : Int) : Ok Try.prog 61 [B8 x] g fun v h => v = .bool (x != 0) ∧ h = g := by
  refine ok61 fun _ _ => ?_
  simp (disch := omega) only [F61, sh, sh2, binL_neq_int]
  exact ⟨rfl, trivial⟩
theorem not1_ok (x : Int) : Ok Try.prog 63 [i x] g fun v h => v = .bool (x != 1) ∧ h = g := by
  refine ok63 fun _ _ => ?_
  simp (disch := omega) only [F63, i, sh, sh2, binL_neq_int]
  exact ⟨rfl, trivial⟩
theorem has60_ok (R : Row g V byteE l) (hm : l.length < 9223372036854775808) : Ok Try.prog 60 [V, .func (.func 61) [] []] g fun v h => v = .bool (l.any fun x => x != 0) ∧ h = g := by
  refine ok60 fun _ _ => ?_
  simp (disch := omega) only [F60]
  refine (indexFuncM83_ok (p := fun x => x != 0) R hm fun x K _ hK => ?_).mono ?_
  · rw [cv61]
    refine (not0_ok x).mono ?_
    rintro _ _ ⟨rfl, rfl⟩
    exact hK
  · rintro _ h ⟨rfl, rfl⟩
    simp (disch := omega) only [i, sh, sh2, shi]
    exact ⟨by rw [← firstOf_has], trivial⟩
theorem has62_ok (R : Row g V intE l) (hm : l.length < 9223372036854775808) : Ok Try.prog 62 [V, .func (.func 63) [] []] g fun v h => v = .bool (l.any fun x => x != 1) ∧ h = g := by
  refine ok62 fun _ _ => ?_
  simp (disch := omega) only [F62]
  refine (indexFuncM76_ok (p := fun x => x != 1) R hm fun x K _ hK => ?_).mono ?_
  · rw [cv63]
    refine (not1_ok x).mono ?_
    rintro _ _ ⟨rfl, rfl⟩
    exact hK
  · rintro _ h ⟨rfl, rfl⟩
    simp (disch := omega) only [i, sh, sh2, shi]
    exact ⟨by rw [← firstOf_has], trivial⟩
end
end Go.Proofs.Ytoajcekgoalhjaa
