/-
  parapetlaw26.CallTells returns true for every value, every number of an error and every word of 32 bits: no condition. What Result, Told and Word tell is computed case by case; the law's own call is computed with these put in for the calls.
-/
import Derived.Test.YtaofgdibpbpalaaCom
import Derived.IntWalk
namespace Go.Proofs.Ytaofgdibpbpalaa
open Go.ChangeShapes Go.WideShapes Go.ChangeAt Go.RowKit Go.Lm

set_option maxRecDepth 1000000 in
theorem fine7 : [7].all (fineF Try.prog) = true := by kernel_rfl
set_option maxRecDepth 1000000 in
theorem fine21 : [21, 22, 23, 24].all (fineF Try.prog) = true := by kernel_rfl
/-- What Result and Told tell. -/
def resN (v e : Int) : Int := if e = 0 then IntKind.u32.wrap v else IntKind.u32.wrap (IntKind.i64.wrap (0 - e))
def lowI (r : Int) : Int := IntKind.i64.wrap (IntKind.i32.wrap r)
def toldV (r : Int) : Int := if lowI r < 0 ∧ lowI r ≥ -133 then 0 else IntKind.i64.wrap r
def toldE (r : Int) : Int := if lowI r < 0 ∧ lowI r ≥ -133 then IntKind.i64.wrap (0 - lowI r) else 0
set_option maxRecDepth 1000000 in
theorem result_zero (v e : Int) : (callQ Try.prog [21, 22, 23, 24] [] [(21, [(6, .bool false)])] 100 21 [i v, i e] (emp 0) fun x _ => x = .int .u32 (IntKind.u32.wrap v)) =
    (binL Try.prog .neq 3 true (i e) (i 0) = some (.bool false) ∧ LV.int .u32 (IntKind.u32.wrap v) = LV.int .u32 (IntKind.u32.wrap v)) := by kernel_rfl
set_option maxRecDepth 1000000 in
theorem result_err (v e : Int) : (callQ Try.prog [21, 22, 23, 24] [] [(21, [(6, .bool true)])] 100 21 [i v, i e] (emp 0) fun x _ => x = .int .u32 (IntKind.u32.wrap (IntKind.i64.wrap (0 - e)))) =
    (binL Try.prog .neq 3 true (i e) (i 0) = some (.bool true) ∧ LV.int .u32 (IntKind.u32.wrap (IntKind.i64.wrap (0 - e))) = LV.int .u32 (IntKind.u32.wrap (IntKind.i64.wrap (0 - e)))) := by kernel_rfl
set_option maxRecDepth 1000000 in
theorem result'_zero (v e : Int) : (callQ Try.prog [21, 22, 23, 24] [] [(22, [(6, .bool false)])] 100 22 [i v, i e] (emp 0) fun x _ => x = .int .u32 (IntKind.u32.wrap v)) =
    (binL Try.prog .neq 3 true (i e) (i 0) = some (.bool false) ∧ LV.int .u32 (IntKind.u32.wrap v) = LV.int .u32 (IntKind.u32.wrap v)) := by kernel_rfl
set_option maxRecDepth 1000000 in
theorem result'_err (v e : Int) : (callQ Try.prog [21, 22, 23, 24] [] [(22, [(6, .bool true)])] 100 22 [i v, i e] (emp 0) fun x _ => x = .int .u32 (IntKind.u32.wrap (IntKind.i64.wrap (0 - e)))) =
    (binL Try.prog .neq 3 true (i e) (i 0) = some (.bool true) ∧ LV.int .u32 (IntKind.u32.wrap (IntKind.i64.wrap (0 - e))) = LV.int .u32 (IntKind.u32.wrap (IntKind.i64.wrap (0 - e)))) := by kernel_rfl
theorem result_pure (v e : Int) : Pure Try.prog 21 [i v, i e] (.int .u32 (resN v e)) := by
  unfold resN
  by_cases h : e = 0
  · rw [if_pos h]; exact pure_asked' Try.mixed fine21 rfl (result_zero v e) ⟨by rw [binL_neq_int, h]; rfl, rfl⟩
  · rw [if_neg h]; exact pure_asked' Try.mixed fine21 rfl (result_err v e) ⟨by rw [binL_neq_int, beq_eq_false_iff_ne.2 h]; rfl, rfl⟩
theorem result'_pure (v e : Int) : Pure Try.prog 22 [i v, i e] (.int .u32 (resN v e)) := by
  unfold resN
  by_cases h : e = 0
  · rw [if_pos h]; exact pure_asked' Try.mixed fine21 rfl (result'_zero v e) ⟨by rw [binL_neq_int, h]; rfl, rfl⟩
  · rw [if_neg h]; exact pure_asked' Try.mixed fine21 rfl (result'_err v e) ⟨by rw [binL_neq_int, beq_eq_false_iff_ne.2 h]; rfl, rfl⟩
set_option maxRecDepth 1000000 in
theorem told_pos (r : Int) : (callQ Try.prog [21, 22, 23, 24] [] [(23, [(9, .bool false)])] 100 23 [.int .u32 r] (emp 0) fun x _ => x = .tuple [i (IntKind.i64.wrap r), i 0]) =
    (binL Try.prog .lss 3 true (i (lowI r)) (i 0) = some (.bool false) ∧ LV.tuple [i (IntKind.i64.wrap r), i 0] = .tuple [i (IntKind.i64.wrap r), i 0]) := by kernel_rfl
set_option maxRecDepth 1000000 in
theorem told_low (r : Int) : (callQ Try.prog [21, 22, 23, 24] [] [(23, [(9, .bool true), (12, .bool false)])] 100 23 [.int .u32 r] (emp 0) fun x _ => x = .tuple [i (IntKind.i64.wrap r), i 0]) =
    (binL Try.prog .lss 3 true (i (lowI r)) (i 0) = some (.bool true) ∧ binL Try.prog .geq 3 true (i (lowI r)) (i (-133)) = some (.bool false) ∧ LV.tuple [i (IntKind.i64.wrap r), i 0] = .tuple [i (IntKind.i64.wrap r), i 0]) := by kernel_rfl
set_option maxRecDepth 1000000 in
theorem told_err (r : Int) : (callQ Try.prog [21, 22, 23, 24] [] [(23, [(9, .bool true), (12, .bool true)])] 100 23 [.int .u32 r] (emp 0) fun x _ => x = .tuple [i 0, i (IntKind.i64.wrap (0 - lowI r))]) =
    (binL Try.prog .lss 3 true (i (lowI r)) (i 0) = some (.bool true) ∧ binL Try.prog .geq 3 true (i (lowI r)) (i (-133)) = some (.bool true) ∧ LV.tuple [i 0, i (IntKind.i64.wrap (0 - lowI r))] = .tuple [i 0, i (IntKind.i64.wrap (0 - lowI r))]) := by kernel_rfl
theorem told_pure (r : Int) : Pure Try.prog 23 [.int .u32 r] (.tuple [i (toldV r), i (toldE r)]) := by
  unfold toldV toldE
  by_cases h : lowI r < 0
  · by_cases h' : lowI r ≥ -133
    · rw [if_pos ⟨h, h'⟩, if_pos ⟨h, h'⟩]; exact pure_asked' Try.mixed fine21 rfl (told_err r) ⟨by rw [binL_lss_int, decide_eq_true h], by rw [binL_geq_int, decide_eq_true h'], rfl⟩
    · rw [if_neg (fun x => h' x.2), if_neg (fun x => h' x.2)]; exact pure_asked' Try.mixed fine21 rfl (told_low r) ⟨by rw [binL_lss_int, decide_eq_true h], by rw [binL_geq_int, decide_eq_false h'], rfl⟩
  · rw [if_neg (fun x => h x.1), if_neg (fun x => h x.1)]; exact pure_asked' Try.mixed fine21 rfl (told_pos r) ⟨by rw [binL_lss_int, decide_eq_false h], rfl⟩
set_option maxRecDepth 1000000 in
theorem told'_pos (r : Int) : (callQ Try.prog [21, 22, 23, 24] [] [(24, [(9, .bool false)])] 100 24 [.int .u32 r] (emp 0) fun x _ => x = .tuple [i (IntKind.i64.wrap r), i 0]) =
    (binL Try.prog .lss 3 true (i (lowI r)) (i 0) = some (.bool false) ∧ LV.tuple [i (IntKind.i64.wrap r), i 0] = .tuple [i (IntKind.i64.wrap r), i 0]) := by kernel_rfl
set_option maxRecDepth 1000000 in
theorem told'_low (r : Int) : (callQ Try.prog [21, 22, 23, 24] [] [(24, [(9, .bool true), (12, .bool false)])] 100 24 [.int .u32 r] (emp 0) fun x _ => x = .tuple [i (IntKind.i64.wrap r), i 0]) =
    (binL Try.prog .lss 3 true (i (lowI r)) (i 0) = some (.bool true) ∧ binL Try.prog .geq 3 true (i (lowI r)) (i (-133)) = some (.bool false) ∧ LV.tuple [i (IntKind.i64.wrap r), i 0] = .tuple [i (IntKind.i64.wrap r), i 0]) := by kernel_rfl
set_option maxRecDepth 1000000 in
theorem told'_err (r : Int) : (callQ Try.prog [21, 22, 23, 24] [] [(24, [(9, .bool true), (12, .bool true)])] 100 24 [.int .u32 r] (emp 0) fun x _ => x = .tuple [i 0, i (IntKind.i64.wrap (0 - lowI r))]) =
    (binL Try.prog .lss 3 true (i (lowI r)) (i 0) = some (.bool true) ∧ binL Try.prog .geq 3 true (i (lowI r)) (i (-133)) = some (.bool true) ∧ LV.tuple [i 0, i (IntKind.i64.wrap (0 - lowI r))] = .tuple [i 0, i (IntKind.i64.wrap (0 - lowI r))]) := by kernel_rfl
theorem told'_pure (r : Int) : Pure Try.prog 24 [.int .u32 r] (.tuple [i (toldV r), i (toldE r)]) := by
  unfold toldV toldE
  by_cases h : lowI r < 0
  · by_cases h' : lowI r ≥ -133
    · rw [if_pos ⟨h, h'⟩, if_pos ⟨h, h'⟩]; exact pure_asked' Try.mixed fine21 rfl (told'_err r) ⟨by rw [binL_lss_int, decide_eq_true h], by rw [binL_geq_int, decide_eq_true h'], rfl⟩
    · rw [if_neg (fun x => h' x.2), if_neg (fun x => h' x.2)]; exact pure_asked' Try.mixed fine21 rfl (told'_low r) ⟨by rw [binL_lss_int, decide_eq_true h], by rw [binL_geq_int, decide_eq_false h'], rfl⟩
  · rw [if_neg (fun x => h x.1), if_neg (fun x => h x.1)]; exact pure_asked' Try.mixed fine21 rfl (told'_pos r) ⟨by rw [binL_lss_int, decide_eq_false h], rfl⟩

theorem words_told : (word.all fun x => !(intOf x.1 == 0) && toldV (IntKind.u32.wrap (IntKind.i64.wrap (0 - intOf x.1))) == 0 && toldE (IntKind.u32.wrap (IntKind.i64.wrap (0 - intOf x.1))) == intOf x.1) = true := by kernel_rfl
theorem told_word (v : Int) {e : Int} (h : wordS e ≠ []) : toldV (resN v e) = 0 ∧ toldE (resN v e) = e := by
  unfold resN
  refine tblOf_cases (tbl := word) (d := .str []) (x := i e) (Q := fun a r => a = i e → strOf r ≠ [] → toldV (if e = 0 then IntKind.u32.wrap v else IntKind.u32.wrap (IntKind.i64.wrap (0 - e))) = 0 ∧ toldE (if e = 0 then IntKind.u32.wrap v else IntKind.u32.wrap (IntKind.i64.wrap (0 - e))) = e) (fun x hx ha _ => ?_) (fun _ _ h => (h rfl).elim) rfl h
  have := List.all_eq_true.1 words_told x hx
  rw [ha] at this
  simp only [intOf, Bool.and_eq_true, Bool.not_eq_true', beq_eq_false_iff_ne, beq_iff_eq] at this
  rw [if_neg this.1.1]
  exact ⟨this.1.2, this.2⟩
theorem told_val {v : Int} (h : v ≥ 0) (h' : v ≤ 2147483647) : toldV (resN v 0) = v ∧ toldE (resN v 0) = 0 := by
  have h1 : IntKind.u32.wrap v = v := IntWalk.u32_in v ⟨h, by omega⟩
  have h2 : IntKind.i32.wrap v = v := IntWalk.i32_in v ⟨by omega, h'⟩
  have h3 : IntKind.i64.wrap v = v := IntWalk.i64_in v ⟨by omega, by omega⟩
  unfold toldV toldE lowI resN
  rw [if_pos rfl, h1, h2, h3, if_neg (by omega), if_neg (by omega)]
  exact ⟨rfl, rfl⟩
def known2 : Known := [(13, fun _ => .bool true), (25, fun a => .str (wordS (intOf (a.headD .nilp)))), (21, fun a => .int .u32 (resN (intOf (a.headD .nilp)) (intOf (a.tail.headD .nilp)))), (22, fun a => .int .u32 (resN (intOf (a.headD .nilp)) (intOf (a.tail.headD .nilp)))),
  (23, fun a => .tuple [i (toldV (intOf (a.headD .nilp))), i (toldE (intOf (a.headD .nilp)))]), (24, fun a => .tuple [i (toldV (intOf (a.headD .nilp))), i (toldE (intOf (a.headD .nilp)))])]
set_option maxRecDepth 1000000 in
theorem tells_wf (v e r : Int) : callQ Try.prog [7] known2 [(7, [(24, .bool false), (38, .bool false), (42, .bool false), (46, .bool true), (55, .bool false), (59, .bool false), (62, .bool false)])] 100 7 [i v, i e, .int .u32 r] (emp 0) (fun v _ => v = .bool true) =
    (Pure Try.prog 13 [] (.bool true) ∧
      Pure Try.prog 21 [i v, i e] (.int .u32 (resN v e)) ∧
      Pure Try.prog 22 [i v, i e] (.int .u32 (resN v e)) ∧
      binL Try.prog .neq 36 false (.int .u32 (resN v e)) (.int .u32 (resN v e)) = some (.bool false) ∧
      Pure Try.prog 23 [.int .u32 r] (.tuple [i (toldV r), i (toldE r)]) ∧
      Pure Try.prog 24 [.int .u32 r] (.tuple [i (toldV r), i (toldE r)]) ∧
      binL Try.prog .neq 3 false (i (toldV r)) (i (toldV r)) = some (.bool false) ∧
      binL Try.prog .neq 3 false (i (toldE r)) (i (toldE r)) = some (.bool false) ∧
      Pure Try.prog 25 [i e] (.str (wordS e)) ∧
      binL Try.prog .neq 9 true (.str (wordS e)) (.str []) = some (.bool true) ∧
      Pure Try.prog 21 [i v, i e] (.int .u32 (resN v e)) ∧
      Pure Try.prog 23 [.int .u32 (resN v e)] (.tuple [i (toldV (resN v e)), i (toldE (resN v e))]) ∧
      binL Try.prog .neq 3 true (i (toldV (resN v e))) (i 0) = some (.bool false) ∧
      binL Try.prog .neq 3 false (i (toldE (resN v e))) (i e) = some (.bool false) ∧
      binL Try.prog .geq 3 true (i v) (i 0) = some (.bool false) ∧
      LV.bool true = LV.bool true) := by kernel_rfl
set_option maxRecDepth 1000000 in
theorem tells_wtf (v e r : Int) : callQ Try.prog [7] known2 [(7, [(24, .bool false), (38, .bool false), (42, .bool false), (46, .bool true), (55, .bool false), (59, .bool false), (62, .bool true), (65, .bool false)])] 100 7 [i v, i e, .int .u32 r] (emp 0) (fun v _ => v = .bool true) =
    (Pure Try.prog 13 [] (.bool true) ∧
      Pure Try.prog 21 [i v, i e] (.int .u32 (resN v e)) ∧
      Pure Try.prog 22 [i v, i e] (.int .u32 (resN v e)) ∧
      binL Try.prog .neq 36 false (.int .u32 (resN v e)) (.int .u32 (resN v e)) = some (.bool false) ∧
      Pure Try.prog 23 [.int .u32 r] (.tuple [i (toldV r), i (toldE r)]) ∧
      Pure Try.prog 24 [.int .u32 r] (.tuple [i (toldV r), i (toldE r)]) ∧
      binL Try.prog .neq 3 false (i (toldV r)) (i (toldV r)) = some (.bool false) ∧
      binL Try.prog .neq 3 false (i (toldE r)) (i (toldE r)) = some (.bool false) ∧
      Pure Try.prog 25 [i e] (.str (wordS e)) ∧
      binL Try.prog .neq 9 true (.str (wordS e)) (.str []) = some (.bool true) ∧
      Pure Try.prog 21 [i v, i e] (.int .u32 (resN v e)) ∧
      Pure Try.prog 23 [.int .u32 (resN v e)] (.tuple [i (toldV (resN v e)), i (toldE (resN v e))]) ∧
      binL Try.prog .neq 3 true (i (toldV (resN v e))) (i 0) = some (.bool false) ∧
      binL Try.prog .neq 3 false (i (toldE (resN v e))) (i e) = some (.bool false) ∧
      binL Try.prog .geq 3 true (i v) (i 0) = some (.bool true) ∧
      binL Try.prog .leq 3 true (i v) (i 2147483647) = some (.bool false) ∧
      LV.bool true = LV.bool true) := by kernel_rfl
set_option maxRecDepth 1000000 in
theorem tells_wtt (v e r : Int) : callQ Try.prog [7] known2 [(7, [(24, .bool false), (38, .bool false), (42, .bool false), (46, .bool true), (55, .bool false), (59, .bool false), (62, .bool true), (65, .bool true), (75, .bool true), (78, .bool true)])] 100 7 [i v, i e, .int .u32 r] (emp 0) (fun v _ => v = .bool true) =
    (Pure Try.prog 13 [] (.bool true) ∧
      Pure Try.prog 21 [i v, i e] (.int .u32 (resN v e)) ∧
      Pure Try.prog 22 [i v, i e] (.int .u32 (resN v e)) ∧
      binL Try.prog .neq 36 false (.int .u32 (resN v e)) (.int .u32 (resN v e)) = some (.bool false) ∧
      Pure Try.prog 23 [.int .u32 r] (.tuple [i (toldV r), i (toldE r)]) ∧
      Pure Try.prog 24 [.int .u32 r] (.tuple [i (toldV r), i (toldE r)]) ∧
      binL Try.prog .neq 3 false (i (toldV r)) (i (toldV r)) = some (.bool false) ∧
      binL Try.prog .neq 3 false (i (toldE r)) (i (toldE r)) = some (.bool false) ∧
      Pure Try.prog 25 [i e] (.str (wordS e)) ∧
      binL Try.prog .neq 9 true (.str (wordS e)) (.str []) = some (.bool true) ∧
      Pure Try.prog 21 [i v, i e] (.int .u32 (resN v e)) ∧
      Pure Try.prog 23 [.int .u32 (resN v e)] (.tuple [i (toldV (resN v e)), i (toldE (resN v e))]) ∧
      binL Try.prog .neq 3 true (i (toldV (resN v e))) (i 0) = some (.bool false) ∧
      binL Try.prog .neq 3 false (i (toldE (resN v e))) (i e) = some (.bool false) ∧
      binL Try.prog .geq 3 true (i v) (i 0) = some (.bool true) ∧
      binL Try.prog .leq 3 true (i v) (i 2147483647) = some (.bool true) ∧
      Pure Try.prog 21 [i v, i 0] (.int .u32 (resN v 0)) ∧
      Pure Try.prog 23 [.int .u32 (resN v 0)] (.tuple [i (toldV (resN v 0)), i (toldE (resN v 0))]) ∧
      binL Try.prog .eql 3 false (i (toldV (resN v 0))) (i v) = some (.bool true) ∧
      binL Try.prog .eql 3 true (i (toldE (resN v 0))) (i 0) = some (.bool true) ∧
      LV.bool true = LV.bool true) := by kernel_rfl
set_option maxRecDepth 1000000 in
theorem tells_nf (v e r : Int) : callQ Try.prog [7] known2 [(7, [(24, .bool false), (38, .bool false), (42, .bool false), (46, .bool false), (62, .bool false)])] 100 7 [i v, i e, .int .u32 r] (emp 0) (fun v _ => v = .bool true) =
    (Pure Try.prog 13 [] (.bool true) ∧
      Pure Try.prog 21 [i v, i e] (.int .u32 (resN v e)) ∧
      Pure Try.prog 22 [i v, i e] (.int .u32 (resN v e)) ∧
      binL Try.prog .neq 36 false (.int .u32 (resN v e)) (.int .u32 (resN v e)) = some (.bool false) ∧
      Pure Try.prog 23 [.int .u32 r] (.tuple [i (toldV r), i (toldE r)]) ∧
      Pure Try.prog 24 [.int .u32 r] (.tuple [i (toldV r), i (toldE r)]) ∧
      binL Try.prog .neq 3 false (i (toldV r)) (i (toldV r)) = some (.bool false) ∧
      binL Try.prog .neq 3 false (i (toldE r)) (i (toldE r)) = some (.bool false) ∧
      Pure Try.prog 25 [i e] (.str (wordS e)) ∧
      binL Try.prog .neq 9 true (.str (wordS e)) (.str []) = some (.bool false) ∧
      binL Try.prog .geq 3 true (i v) (i 0) = some (.bool false) ∧
      LV.bool true = LV.bool true) := by kernel_rfl
set_option maxRecDepth 1000000 in
theorem tells_ntf (v e r : Int) : callQ Try.prog [7] known2 [(7, [(24, .bool false), (38, .bool false), (42, .bool false), (46, .bool false), (62, .bool true), (65, .bool false)])] 100 7 [i v, i e, .int .u32 r] (emp 0) (fun v _ => v = .bool true) =
    (Pure Try.prog 13 [] (.bool true) ∧
      Pure Try.prog 21 [i v, i e] (.int .u32 (resN v e)) ∧
      Pure Try.prog 22 [i v, i e] (.int .u32 (resN v e)) ∧
      binL Try.prog .neq 36 false (.int .u32 (resN v e)) (.int .u32 (resN v e)) = some (.bool false) ∧
      Pure Try.prog 23 [.int .u32 r] (.tuple [i (toldV r), i (toldE r)]) ∧
      Pure Try.prog 24 [.int .u32 r] (.tuple [i (toldV r), i (toldE r)]) ∧
      binL Try.prog .neq 3 false (i (toldV r)) (i (toldV r)) = some (.bool false) ∧
      binL Try.prog .neq 3 false (i (toldE r)) (i (toldE r)) = some (.bool false) ∧
      Pure Try.prog 25 [i e] (.str (wordS e)) ∧
      binL Try.prog .neq 9 true (.str (wordS e)) (.str []) = some (.bool false) ∧
      binL Try.prog .geq 3 true (i v) (i 0) = some (.bool true) ∧
      binL Try.prog .leq 3 true (i v) (i 2147483647) = some (.bool false) ∧
      LV.bool true = LV.bool true) := by kernel_rfl
set_option maxRecDepth 1000000 in
theorem tells_ntt (v e r : Int) : callQ Try.prog [7] known2 [(7, [(24, .bool false), (38, .bool false), (42, .bool false), (46, .bool false), (62, .bool true), (65, .bool true), (75, .bool true), (78, .bool true)])] 100 7 [i v, i e, .int .u32 r] (emp 0) (fun v _ => v = .bool true) =
    (Pure Try.prog 13 [] (.bool true) ∧
      Pure Try.prog 21 [i v, i e] (.int .u32 (resN v e)) ∧
      Pure Try.prog 22 [i v, i e] (.int .u32 (resN v e)) ∧
      binL Try.prog .neq 36 false (.int .u32 (resN v e)) (.int .u32 (resN v e)) = some (.bool false) ∧
      Pure Try.prog 23 [.int .u32 r] (.tuple [i (toldV r), i (toldE r)]) ∧
      Pure Try.prog 24 [.int .u32 r] (.tuple [i (toldV r), i (toldE r)]) ∧
      binL Try.prog .neq 3 false (i (toldV r)) (i (toldV r)) = some (.bool false) ∧
      binL Try.prog .neq 3 false (i (toldE r)) (i (toldE r)) = some (.bool false) ∧
      Pure Try.prog 25 [i e] (.str (wordS e)) ∧
      binL Try.prog .neq 9 true (.str (wordS e)) (.str []) = some (.bool false) ∧
      binL Try.prog .geq 3 true (i v) (i 0) = some (.bool true) ∧
      binL Try.prog .leq 3 true (i v) (i 2147483647) = some (.bool true) ∧
      Pure Try.prog 21 [i v, i 0] (.int .u32 (resN v 0)) ∧
      Pure Try.prog 23 [.int .u32 (resN v 0)] (.tuple [i (toldV (resN v 0)), i (toldE (resN v 0))]) ∧
      binL Try.prog .eql 3 false (i (toldV (resN v 0))) (i v) = some (.bool true) ∧
      binL Try.prog .eql 3 true (i (toldE (resN v 0))) (i 0) = some (.bool true) ∧
      LV.bool true = LV.bool true) := by kernel_rfl
theorem tells_pure (v e r : Int) : Pure Try.prog 7 [i v, i e, .int .u32 r] (.bool true) := by
  by_cases h1 : wordS e = []
  · by_cases h2 : v ≥ 0
    · by_cases h3 : v ≤ 2147483647
      · exact pure_asked' Try.mixed fine7 rfl (tells_ntt v e r) ⟨awake_pure, result_pure v e, result'_pure v e, by rw [binL_neq_int]; simp, told_pure r, told'_pure r, by rw [binL_neq_int]; simp, by rw [binL_neq_int]; simp, word_pure e, by rw [binL_neq_str, h1]; rfl, by rw [binL_geq_int, decide_eq_true h2], by rw [binL_leq_int, decide_eq_true h3], result_pure v 0, told_pure _, by rw [binL_eql_int, (told_val h2 h3).1]; simp, by rw [binL_eql_int, (told_val h2 h3).2]; rfl, rfl⟩
      · exact pure_asked' Try.mixed fine7 rfl (tells_ntf v e r) ⟨awake_pure, result_pure v e, result'_pure v e, by rw [binL_neq_int]; simp, told_pure r, told'_pure r, by rw [binL_neq_int]; simp, by rw [binL_neq_int]; simp, word_pure e, by rw [binL_neq_str, h1]; rfl, by rw [binL_geq_int, decide_eq_true h2], by rw [binL_leq_int, decide_eq_false h3], rfl⟩
    · exact pure_asked' Try.mixed fine7 rfl (tells_nf v e r) ⟨awake_pure, result_pure v e, result'_pure v e, by rw [binL_neq_int]; simp, told_pure r, told'_pure r, by rw [binL_neq_int]; simp, by rw [binL_neq_int]; simp, word_pure e, by rw [binL_neq_str, h1]; rfl, by rw [binL_geq_int, decide_eq_false h2], rfl⟩
  · by_cases h2 : v ≥ 0
    · by_cases h3 : v ≤ 2147483647
      · exact pure_asked' Try.mixed fine7 rfl (tells_wtt v e r) ⟨awake_pure, result_pure v e, result'_pure v e, by rw [binL_neq_int]; simp, told_pure r, told'_pure r, by rw [binL_neq_int]; simp, by rw [binL_neq_int]; simp, word_pure e, by rw [binL_neq_str, beq_eq_false_iff_ne.2 h1]; rfl, result_pure v e, told_pure _, by rw [binL_neq_int, (told_word v h1).1]; rfl, by rw [binL_neq_int, (told_word v h1).2]; simp, by rw [binL_geq_int, decide_eq_true h2], by rw [binL_leq_int, decide_eq_true h3], result_pure v 0, told_pure _, by rw [binL_eql_int, (told_val h2 h3).1]; simp, by rw [binL_eql_int, (told_val h2 h3).2]; rfl, rfl⟩
      · exact pure_asked' Try.mixed fine7 rfl (tells_wtf v e r) ⟨awake_pure, result_pure v e, result'_pure v e, by rw [binL_neq_int]; simp, told_pure r, told'_pure r, by rw [binL_neq_int]; simp, by rw [binL_neq_int]; simp, word_pure e, by rw [binL_neq_str, beq_eq_false_iff_ne.2 h1]; rfl, result_pure v e, told_pure _, by rw [binL_neq_int, (told_word v h1).1]; rfl, by rw [binL_neq_int, (told_word v h1).2]; simp, by rw [binL_geq_int, decide_eq_true h2], by rw [binL_leq_int, decide_eq_false h3], rfl⟩
    · exact pure_asked' Try.mixed fine7 rfl (tells_wf v e r) ⟨awake_pure, result_pure v e, result'_pure v e, by rw [binL_neq_int]; simp, told_pure r, told'_pure r, by rw [binL_neq_int]; simp, by rw [binL_neq_int]; simp, word_pure e, by rw [binL_neq_str, beq_eq_false_iff_ne.2 h1]; rfl, result_pure v e, told_pure _, by rw [binL_neq_int, (told_word v h1).1]; rfl, by rw [binL_neq_int, (told_word v h1).2]; simp, by rw [binL_geq_int, decide_eq_false h2], rfl⟩
theorem u36 : Try.prog.underlying 36 = some (.int .u32) := by kernel_rfl
theorem body7 (g : LHeap) (xs : List LV) (h : ShpArgs Try.prog g 4 [3, 3, 36] xs) : Ok Try.prog 7 xs g fun v _ => v = .bool true := by
  obtain ⟨v, ys, rfl, _, _, h⟩ := shp_int u3 h
  obtain ⟨e, ws, rfl, _, _, h⟩ := shp_int u3 h
  obtain ⟨r, zs, rfl, _, _, h⟩ := shp_int u36 h
  obtain rfl := shp_nil h
  exact (tells_pure v e r).to rfl

set_option maxRecDepth 100000 in
theorem lifted (os : Os) (started : os.Started) (H : Type) (enc : TypeId × Value → H) :
    ReturnsInHanded {} Try.checked os 7 .any (Rows.callTellsSpec.pre6 enc Try.prog Try.f7 Rows.callTellsRow.domain false) (Rows.callTellsSpec.post enc Try.prog Try.f7 false true false false) := by
  refine returnsInHanded_of_change (C := Try.checked) Try.own started (by kernel_rfl) Try.func7
    (ChangeSpec.witness6 (enc := enc) (C := Try.checked) false ⟨#[], #[.int .i64 0, .int .i64 0, .int .u32 0], []⟩ 8 (by kernel_rfl) (by kernel_rfl) (by kernel_rfl) (by kernel_rfl)) ?_
  intro W base args ds gs before hval0 hW hcnd _
  have hval : ∀ (j : Nat) t v, Try.f7.params[j]? = some t → args[j]? = some v → Value.okWide Try.prog W .any base t v := hval0
  have hW' := hW
  obtain ⟨p, q, hA0, hV, rfl, hfz, hnd⟩ := hW
  have hA : DataW.TrodAll enc Try.prog W 0 (fun _ => true) true Try.f7.params.toList args.toList ds p := hA0
  rw [Try.params7] at hA hval
  obtain ⟨v0, v1, v2, d0, d1, d2, p0, p1, p2, _, rfl, _, _, _, _⟩ := trodAll_three hA
  obtain ⟨rfl, rfl⟩ := trodVars_none hV
  refine (law_calls (P := Try.prog) (n := 4) (ts := [3, 3, 36]) (by kernel_rfl) hA (fun j t v ht hv => hval j t v (by simpa using ht) hv) (fun g xs _ hs => body7 g xs hs)).mono fun e W' ⟨he, hb⟩ => ?_
  subst he
  exact ⟨_, rfl, post_true (P := Try.prog) (t := 4) Try.laidOut (by rw [Try.params7]; intro t ht; simp at ht; rcases ht with rfl | rfl | rfl <;> exact ⟨by kernel_rfl, by rw [Try.types_size]; decide⟩) rfl hW' (by kernel_rfl) (by kernel_rfl) rfl hb⟩

theorem holds : Rows.CallTellsSaid :=
  OpenClaim.holds_of_wide 7 Try.f7 rfl rfl rfl rfl rfl rfl rfl ⟨rfl, rfl, rfl, rfl, rfl⟩ rfl rfl rfl rfl rfl (by kernel_rfl) Try.func7 (by kernel_rfl)
    (of_decide_eq_true (by kernel_rfl)) (by unfold Func.isWrapper; first | (rw [if_pos (by decide +kernel)]; kernel_rfl) | (rw [if_neg (by decide +kernel)]; exact ⟨rfl, rfl⟩))
    (fun os started H enc _ => lifted os started H enc)

#print axioms holds
end Go.Proofs.Ytaofgdibpbpalaa
