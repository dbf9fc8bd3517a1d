/-
  The calls' names and errors (layer 26): what awake, Errno and Word tell, in the program and in the document's answer; for every number.
-/
import Derived.Test.YtaofgdibpbpalaaRows
import Derived.Test.YtaofgdibpbpalaaLmY
namespace Go.Proofs.Ytaofgdibpbpalaa
open Go.ChangeShapes Go.WideShapes Go.ChangeAt Go.RowKit Go.Lm

theorem Try.own : ownKnob Try.prog.godebug = none := by kernel_rfl
theorem Try.laidOut : laidOutB Try.prog = true := by kernel_rfl
theorem Try.mixed : Try.prog.follows .mixedOrders = true := by kernel_rfl
theorem u3 : Try.prog.underlying 3 = some (.int .i64) := by kernel_rfl
abbrev i (n : Int) : LV := .int .i64 n

def reachedA : List FuncId := [13, 30, 27, 59, 62, 83, 34, 63, 32, 28, 21]
set_option maxRecDepth 1000000 in
theorem fineA : reachedA.all (fineF Try.prog) = true := by kernel_rfl
set_option maxRecDepth 1000000 in
theorem awake_computed : (flats [] && (LV.bool true).flat && callB Try.prog reachedA 300 13 [] (emp 0) fun v _ => v.eqb (.bool true)) = true := by kernel_rfl
theorem awake_pure : Pure Try.prog 13 [] (.bool true) := pure_computed Try.mixed fineA awake_computed

def err : List (LV × LV) := [(i 0, i 0), (i 4, i 2), (i 240, i 3), (i 241, i 3), (i 230, i 8), (i 220, i 9), (i 221, i 9), (i 211, i 11), (i 2, i 12), (i 51, i 14), (i 5, i 16), (i 181, i 17), (i 191, i 20), (i 200, i 21), (i 173, i 27), (i 172, i 28), (i 201, i 31), (i 210, i 32), (i 3, i 36), (i 260, i 38), (i 202, i 39)]
def errKeys : List Int := [0, 4, 240, 241, 230, 220, 221, 211, 2, 51, 5, 181, 191, 200, 173, 172, 201, 210, 3, 260, 202]
def errKeys' : List Int := [0, 4, 240, 241, 230, 220, 221, 2, 51, 5, 181, 191, 200, 173, 172, 201, 210, 3, 260, 202, 211]
def word : List (LV × LV) := [(i 2, .str [69, 78, 79, 69, 78, 84]), (i 3, .str [69, 83, 82, 67, 72]), (i 8, .str [69, 78, 79, 69, 88, 69, 67]), (i 9, .str [69, 66, 65, 68, 70]), (i 10, .str [69, 67, 72, 73, 76, 68]), (i 11, .str [69, 65, 71, 65, 73, 78]), (i 12, .str [69, 78, 79, 77, 69, 77]), (i 14, .str [69, 70, 65, 85, 76, 84]), (i 16, .str [69, 66, 85, 83, 89]), (i 17, .str [69, 69, 88, 73, 83, 84]), (i 20, .str [69, 78, 79, 84, 68, 73, 82]), (i 21, .str [69, 73, 83, 68, 73, 82]), (i 22, .str [69, 73, 78, 86, 65, 76]), (i 23, .str [69, 78, 70, 73, 76, 69]), (i 24, .str [69, 77, 70, 73, 76, 69]), (i 27, .str [69, 70, 66, 73, 71]), (i 28, .str [69, 78, 79, 83, 80, 67]), (i 31, .str [69, 77, 76, 73, 78, 75]), (i 32, .str [69, 80, 73, 80, 69]), (i 36, .str [69, 78, 65, 77, 69, 84, 79, 79, 76, 79, 78, 71]), (i 38, .str [69, 78, 79, 83, 89, 83]), (i 39, .str [69, 78, 79, 84, 69, 77, 80, 84, 89])]
def wordKeys : List Int := [2, 3, 8, 9, 10, 11, 12, 14, 16, 17, 20, 21, 22, 23, 24, 27, 28, 31, 32, 36, 38, 39]
set_option maxRecDepth 1000000 in
theorem fineE : [37, 66, 38, 25, 39].all (fineF Try.prog) = true := by kernel_rfl
set_option maxRecDepth 1000000 in
theorem errno_each : (err.all fun e => flats [e.1] && e.2.flat && callB Try.prog [37, 66, 38, 25, 39] 100 37 [e.1] (emp 0) fun v _ => v.eqb e.2) = true := by kernel_rfl
set_option maxRecDepth 1000000 in
theorem errno_asked (e : Int) : callQ Try.prog [37, 66, 38, 25, 39] [] [(37, [(8, .nilp)])] 100 37 [i e] (emp 0) (fun v _ => v = i 22) = neAll e errKeys (i 22 = i 22) := by kernel_rfl
set_option maxRecDepth 1000000 in
theorem errno'_each : (err.all fun e => flats [e.1] && e.2.flat && callB Try.prog [37, 66, 38, 25, 39] 200 38 [e.1] (emp 0) fun v _ => v.eqb e.2) = true := by kernel_rfl
set_option maxRecDepth 1000000 in
theorem errno'_asked (e : Int) : callQ Try.prog [37, 66, 38, 25, 39] [] [(38, [(35, .bool false)])] 200 38 [i e] (emp 0) (fun v _ => v = i 22) = noAll' Try.prog 28 false .i64 e errKeys' (i 22 = i 22) := by kernel_rfl
set_option maxRecDepth 1000000 in
theorem word_each : (word.all fun e => flats [e.1] && e.2.flat && callB Try.prog [37, 66, 38, 25, 39] 100 25 [e.1] (emp 0) fun v _ => v.eqb e.2) = true := by kernel_rfl
set_option maxRecDepth 1000000 in
theorem word_asked (e : Int) : callQ Try.prog [37, 66, 38, 25, 39] [] [(25, [(6, .nilp)])] 100 25 [i e] (emp 0) (fun v _ => v = .str []) = neAll e wordKeys (LV.str [] = LV.str []) := by kernel_rfl
set_option maxRecDepth 1000000 in
theorem word'_each : (word.all fun e => flats [e.1] && e.2.flat && callB Try.prog [37, 66, 38, 25, 39] 200 39 [e.1] (emp 0) fun v _ => v.eqb e.2) = true := by kernel_rfl
set_option maxRecDepth 1000000 in
theorem word'_asked (e : Int) : callQ Try.prog [37, 66, 38, 25, 39] [] [(39, [(5, .bool false), (7, .bool false), (9, .bool false), (11, .bool false), (13, .bool false), (15, .bool false), (17, .bool false), (19, .bool false), (21, .bool false), (23, .bool false), (25, .bool false), (27, .bool false), (29, .bool false), (31, .bool false), (33, .bool false), (35, .bool false), (37, .bool false), (39, .bool false), (41, .bool false), (43, .bool false), (45, .bool false), (47, .bool false)])] 200 39 [i e] (emp 0) (fun v _ => v = .str []) = noAll Try.prog 3 true .i64 e wordKeys (LV.str [] = LV.str []) := by kernel_rfl

/-- The keys of a table of integers. -/
theorem keys_ne {tbl : List (LV × LV)} {ks : List Int} (hk : (ks.all fun k => tbl.any fun e => e.1.eqb (i k)) = true) {e : Int} (h : ∀ x ∈ tbl, x.1.eqb (i e) = false) : ∀ k ∈ ks, e ≠ k := by
  rintro k hkm rfl
  obtain ⟨x, hx, he⟩ := List.any_eq_true.1 (List.all_eq_true.1 hk e hkm)
  rw [h x hx] at he
  cases he
def intOf : LV → Int
  | .int _ n => n
  | _ => 0
def strOf : LV → List UInt8
  | .str s => s
  | _ => []
theorem err_ints : (err.all fun e => e.2.eqb (i (intOf e.2))) = true := by kernel_rfl
theorem word_strs : (word.all fun e => e.2.eqb (.str (strOf e.2))) = true := by kernel_rfl
theorem errKeys_ok : (errKeys.all fun k => err.any fun e => e.1.eqb (i k)) = true := by kernel_rfl
theorem errKeys'_ok : (errKeys'.all fun k => err.any fun e => e.1.eqb (i k)) = true := by kernel_rfl
theorem wordKeys_ok : (wordKeys.all fun k => word.any fun e => e.1.eqb (i k)) = true := by kernel_rfl
def errN (e : Int) : Int := intOf (tblOf err (i 22) (i e))
def wordS (n : Int) : List UInt8 := strOf (tblOf word (.str []) (i n))
theorem err_eq (e : Int) : tblOf err (i 22) (i e) = i (errN e) := by
  unfold errN
  exact tblOf_cases (Q := fun _ r => r = i (intOf r)) (fun e he => LV.eqb_eq _ _ (List.all_eq_true.1 err_ints e he)) (fun _ => rfl)
theorem word_eq (e : Int) : tblOf word (.str []) (i e) = .str (wordS e) := by
  unfold wordS
  exact tblOf_cases (Q := fun _ r => r = .str (strOf r)) (fun e he => LV.eqb_eq _ _ (List.all_eq_true.1 word_strs e he)) (fun _ => rfl)
theorem errno_pure (e : Int) : Pure Try.prog 37 [i e] (i (errN e)) := by
  rw [← err_eq]
  exact pure_table Try.mixed fineE errno_each fun h => pure_asked' Try.mixed fineE rfl (errno_asked e) (neAll_of rfl (keys_ne errKeys_ok h))
theorem errno'_pure (e : Int) : Pure Try.prog 38 [i e] (i (errN e)) := by
  rw [← err_eq]
  exact pure_table Try.mixed fineE errno'_each fun h => pure_asked' Try.mixed fineE rfl (errno'_asked e) (noAll'_of rfl (keys_ne errKeys'_ok h))
theorem word_pure (e : Int) : Pure Try.prog 25 [i e] (.str (wordS e)) := by
  rw [← word_eq]
  exact pure_table Try.mixed fineE word_each fun h => pure_asked' Try.mixed fineE rfl (word_asked e) (neAll_of rfl (keys_ne wordKeys_ok h))
theorem word'_pure (e : Int) : Pure Try.prog 39 [i e] (.str (wordS e)) := by
  rw [← word_eq]
  exact pure_table Try.mixed fineE word'_each fun h => pure_asked' Try.mixed fineE rfl (word'_asked e) (noAll_of rfl (keys_ne wordKeys_ok h))
/-- What the tables are told of, when it is called. -/
def known1 : Known := [(13, fun _ => .bool true), (37, fun a => i (errN (intOf (a.headD .nilp)))), (38, fun a => i (errN (intOf (a.headD .nilp)))), (25, fun a => .str (wordS (intOf (a.headD .nilp)))), (39, fun a => .str (wordS (intOf (a.headD .nilp))))]

end Go.Proofs.Ytaofgdibpbpalaa
