/-
  parapetlaw26.CallErrors returns true for every error and every number: no condition. What Errno and Word tell is a table (YtaofgdibpbpalaaCom); the law's own call is computed on the logical machine with these tables' answers put in for the calls.
-/
import Derived.Test.YtaofgdibpbpalaaCom
namespace Go.Proofs.Ytaofgdibpbpalaa
open Go.ChangeShapes Go.WideShapes Go.ChangeAt Go.RowKit Go.Lm

set_option maxRecDepth 1000000 in
theorem fine9 : [9].all (fineF Try.prog) = true := by kernel_rfl
set_option maxRecDepth 1000000 in
theorem errors_zero (e n : Int) : callQ Try.prog [9] known1 [(9, [(11, .bool true), (18, .bool true), (23, .bool true), (25, .bool true), (30, .bool true)])] 100 9 [i e, i n] (emp 0) (fun v _ => v = .bool true) =
    (Pure Try.prog 13 [] (.bool true) ∧ Pure Try.prog 37 [i e] (i (errN e)) ∧ Pure Try.prog 38 [i e] (i (errN e)) ∧ binL Try.prog .eql 3 false (i (errN e)) (i (errN e)) = some (.bool true) ∧
      Pure Try.prog 25 [i n] (.str (wordS n)) ∧ Pure Try.prog 39 [i n] (.str (wordS n)) ∧ binL Try.prog .eql 9 false (.str (wordS n)) (.str (wordS n)) = some (.bool true) ∧
      Pure Try.prog 37 [i e] (i (errN e)) ∧ binL Try.prog .eql 3 true (i (errN e)) (i 0) = some (.bool true) ∧ binL Try.prog .eql 28 true (i e) (i 0) = some (.bool true) ∧
      binL Try.prog .eql 28 true (i e) (i 0) = some (.bool true) ∧ LV.bool true = LV.bool true) := by kernel_rfl
set_option maxRecDepth 1000000 in
theorem errors_other (e n : Int) : callQ Try.prog [9] known1 [(9, [(11, .bool true), (18, .bool true), (23, .bool false), (25, .bool false), (30, .bool false), (35, .bool true)])] 100 9 [i e, i n] (emp 0) (fun v _ => v = .bool true) =
    (Pure Try.prog 13 [] (.bool true) ∧ Pure Try.prog 37 [i e] (i (errN e)) ∧ Pure Try.prog 38 [i e] (i (errN e)) ∧ binL Try.prog .eql 3 false (i (errN e)) (i (errN e)) = some (.bool true) ∧
      Pure Try.prog 25 [i n] (.str (wordS n)) ∧ Pure Try.prog 39 [i n] (.str (wordS n)) ∧ binL Try.prog .eql 9 false (.str (wordS n)) (.str (wordS n)) = some (.bool true) ∧
      Pure Try.prog 37 [i e] (i (errN e)) ∧ binL Try.prog .eql 3 true (i (errN e)) (i 0) = some (.bool false) ∧ binL Try.prog .eql 28 true (i e) (i 0) = some (.bool false) ∧
      binL Try.prog .eql 28 true (i e) (i 0) = some (.bool false) ∧ Pure Try.prog 37 [i e] (i (errN e)) ∧ Pure Try.prog 25 [i (errN e)] (.str (wordS (errN e))) ∧
      binL Try.prog .neq 9 true (.str (wordS (errN e))) (.str []) = some (.bool true) ∧ LV.bool true = LV.bool true) := by kernel_rfl

theorem err_words : (err.all fun x => x.1.eqb (i 0) || (!(intOf x.2 == 0) && !(wordS (intOf x.2) == []))) = true := by kernel_rfl
theorem err_zero : errN 0 = 0 := by kernel_rfl
theorem err_ne {e : Int} (h : e ≠ 0) : errN e ≠ 0 ∧ wordS (errN e) ≠ [] := by
  have h0 : ∀ x : LV, x = i e → (LV.eqb x (i 0)) = false := fun x hx => by
    cases hb : LV.eqb x (i 0) with
    | false => rfl
    | true =>
      have := LV.eqb_eq _ _ hb
      rw [hx] at this
      cases this
      exact (h rfl).elim
  refine tblOf_cases (tbl := err) (d := i 22) (x := i e) (Q := fun a r => a = i e → intOf r ≠ 0 ∧ wordS (intOf r) ≠ []) (fun x hx ha => ?_) (fun _ _ => ?_) rfl
  · have := List.all_eq_true.1 err_words x hx
    rw [h0 _ ha] at this
    simpa using this
  · have : (!(intOf (i 22) == 0) && !(wordS (intOf (i 22)) == [])) = true := by kernel_rfl
    simpa using this

theorem u28 : Try.prog.underlying 28 = some (.int .i64) := by kernel_rfl
theorem errors_ok (e n : Int) (g : LHeap) : Ok Try.prog 9 [i e, i n] g fun v _ => v = .bool true := by
  have key : Pure Try.prog 9 [i e, i n] (.bool true) := by
    by_cases h : e = 0
    · subst h
      exact pure_asked' Try.mixed fine9 rfl (errors_zero 0 n) ⟨awake_pure, errno_pure _, errno'_pure _, by rw [binL_eql_int]; simp, word_pure _, word'_pure _, by rw [binL_eql_str]; simp, errno_pure _, by rw [binL_eql_int, err_zero]; rfl, by rw [binL_eql_int]; rfl, by rw [binL_eql_int]; rfl, rfl⟩
    · have h1 := err_ne h
      exact pure_asked' Try.mixed fine9 rfl (errors_other e n) ⟨awake_pure, errno_pure _, errno'_pure _, by rw [binL_eql_int]; simp, word_pure _, word'_pure _, by rw [binL_eql_str]; simp, errno_pure _, by rw [binL_eql_int, beq_eq_false_iff_ne.2 h1.1], by rw [binL_eql_int, beq_eq_false_iff_ne.2 h],
        by rw [binL_eql_int, beq_eq_false_iff_ne.2 h], errno_pure _, word_pure _, by rw [binL_neq_str, beq_eq_false_iff_ne.2 h1.2]; rfl, rfl⟩
  exact key.to rfl
theorem body9 (g : LHeap) (xs : List LV) (h : ShpArgs Try.prog g 4 [28, 3] xs) : Ok Try.prog 9 xs g fun v _ => v = .bool true := by
  obtain ⟨e, ys, rfl, _, _, h⟩ := shp_int u28 h
  obtain ⟨n, ws, rfl, _, _, h⟩ := shp_int u3 h
  obtain rfl := shp_nil h
  exact errors_ok e n g

set_option maxRecDepth 100000 in
theorem lifted (os : Os) (started : os.Started) (H : Type) (enc : TypeId × Value → H) :
    ReturnsInHanded {} Try.checked os 9 .any (Rows.callErrorsSpec.pre6 enc Try.prog Try.f9 Rows.callErrorsRow.domain false) (Rows.callErrorsSpec.post enc Try.prog Try.f9 false true false false) := by
  refine returnsInHanded_of_change (C := Try.checked) Try.own started (by kernel_rfl) Try.func9
    (ChangeSpec.witness6 (enc := enc) (C := Try.checked) false ⟨#[], #[.int .i64 0, .int .i64 0], []⟩ 8 (by kernel_rfl) (by kernel_rfl) (by kernel_rfl) (by kernel_rfl)) ?_
  intro W base args ds gs before hval0 hW hcnd _
  have hval : ∀ (j : Nat) t v, Try.f9.params[j]? = some t → args[j]? = some v → Value.okWide Try.prog W .any base t v := hval0
  have hW' := hW
  obtain ⟨p, q, hA0, hV, rfl, hfz, hnd⟩ := hW
  have hA : DataW.TrodAll enc Try.prog W 0 (fun _ => true) true Try.f9.params.toList args.toList ds p := hA0
  rw [Try.params9] at hA hval
  obtain ⟨v0, v1, d0, d1, p0, p1, _, rfl, _, _, _⟩ := trodAll_two hA
  obtain ⟨rfl, rfl⟩ := trodVars_none hV
  refine (law_calls (P := Try.prog) (n := 4) (ts := [28, 3]) (by kernel_rfl) hA (fun j t v ht hv => hval j t v (by simpa using ht) hv) (fun g xs _ hs => body9 g xs hs)).mono fun e W' ⟨he, hb⟩ => ?_
  subst he
  exact ⟨_, rfl, post_true (P := Try.prog) (t := 4) Try.laidOut (by rw [Try.params9]; intro t ht; simp at ht; rcases ht with rfl | rfl <;> exact ⟨by kernel_rfl, by rw [Try.types_size]; decide⟩) rfl hW' (by kernel_rfl) (by kernel_rfl) rfl hb⟩

theorem holds : Rows.CallErrorsSaid :=
  OpenClaim.holds_of_wide 9 Try.f9 rfl rfl rfl rfl rfl rfl rfl ⟨rfl, rfl, rfl, rfl, rfl⟩ rfl rfl rfl rfl rfl (by kernel_rfl) Try.func9 (by kernel_rfl)
    (of_decide_eq_true (by kernel_rfl)) (by unfold Func.isWrapper; first | (rw [if_pos (by decide +kernel)]; kernel_rfl) | (rw [if_neg (by decide +kernel)]; exact ⟨rfl, rfl⟩))
    (fun os started H enc _ => lifted os started H enc)

#print axioms holds
end Go.Proofs.Ytaofgdibpbpalaa
