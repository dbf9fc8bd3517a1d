/-
  The calls' table (layer 26): what Name, Count, Bound, Most and Number tell, in the program and in the document's answer; for every number and every name.
-/
import Derived.Test.YtaofgdibpbpalaaCom
namespace Go.Proofs.Ytaofgdibpbpalaa
open Go.ChangeShapes Go.WideShapes Go.ChangeAt Go.RowKit Go.Lm

def reachedC : List FuncId := [27, 28, 29, 30, 31, 26, 59, 62, 60, 82, 83, 34, 63, 61, 32, 33, 35, 36, 64, 65]
set_option maxRecDepth 1000000 in
theorem fineC : reachedC.all (fineF Try.prog) = true := by kernel_rfl
def nameT : List (LV × LV) := [(i 1, (.str [101, 120, 105, 116])), (i 2, (.str [102, 111, 114, 107])), (i 3, (.str [119, 97, 105, 116])), (i 4, (.str [107, 105, 108, 108])), (i 5, (.str [103, 101, 116, 112, 105, 100])), (i 6, (.str [115, 112, 97, 119, 110])), (i 7, (.str [106, 111, 105, 110])), (i 8, (.str [116, 101, 120, 105, 116])), (i 9, (.str [102, 119, 97, 105, 116])), (i 10, (.str [102, 119, 97, 107, 101])), (i 11, (.str [109, 109, 97, 112])), (i 12, (.str [109, 117, 110, 109, 97, 112])), (i 13, (.str [111, 112, 101, 110])), (i 14, (.str [99, 108, 111, 115, 101])), (i 15, (.str [114, 101, 97, 100])), (i 16, (.str [119, 114, 105, 116, 101])), (i 17, (.str [100, 117, 112])), (i 18, (.str [112, 105, 112, 101])), (i 19, (.str [109, 107, 100, 105, 114])), (i 20, (.str [117, 110, 108, 105, 110, 107])), (i 21, (.str [108, 105, 110, 107])), (i 22, (.str [114, 101, 110, 97, 109, 101])), (i 23, (.str [115, 105, 122, 101])), (i 24, (.str [115, 121, 110, 99])), (i 25, (.str [101, 120, 101, 99])), (i 26, (.str [121, 105, 101, 108, 100])), (i 27, (.str [115, 101, 101, 107])), (i 28, (.str [103, 101, 116, 116, 105, 100])), (i 29, (.str [116, 105, 99, 107, 115])), (i 30, (.str [112, 111, 108, 108]))]
set_option maxRecDepth 1000000 in
theorem name_each : (nameT.all fun e => flats [e.1] && e.2.flat && callB Try.prog reachedC 300 28 [e.1] (emp 0) fun v _ => v.eqb e.2) = true := by kernel_rfl
theorem name_pure {a b : LV} (h : (a, b) ∈ nameT) : Pure Try.prog 28 [a] b := by
  have := List.all_eq_true.1 name_each (a, b) h
  exact pure_computed Try.mixed fineC this
def countT : List (LV × LV) := [(i 1, i 1), (i 2, i 0), (i 3, i 1), (i 4, i 1), (i 5, i 0), (i 6, i 3), (i 7, i 1), (i 8, i 1), (i 9, i 2), (i 10, i 2), (i 11, i 1), (i 12, i 2), (i 13, i 2), (i 14, i 1), (i 15, i 3), (i 16, i 3), (i 17, i 1), (i 18, i 1), (i 19, i 1), (i 20, i 1), (i 21, i 2), (i 22, i 2), (i 23, i 1), (i 24, i 0), (i 25, i 1), (i 26, i 0), (i 27, i 2), (i 28, i 0), (i 29, i 0), (i 30, i 2)]
set_option maxRecDepth 1000000 in
theorem count_each : (countT.all fun e => flats [e.1] && e.2.flat && callB Try.prog reachedC 300 29 [e.1] (emp 0) fun v _ => v.eqb e.2) = true := by kernel_rfl
theorem count_pure {a b : LV} (h : (a, b) ∈ countT) : Pure Try.prog 29 [a] b := by
  have := List.all_eq_true.1 count_each (a, b) h
  exact pure_computed Try.mixed fineC this
def boundT : List (LV × LV) := [(i 1, i 0), (i 2, i 960), (i 3, i 32), (i 4, i 0), (i 5, i 0), (i 6, i 128), (i 7, i 32), (i 8, i 0), (i 9, i 32), (i 10, i 0), (i 11, i 32), (i 12, i 32), (i 13, i 320), (i 14, i 0), (i 15, i 32), (i 16, i 32), (i 17, i 0), (i 18, i 704), (i 19, i 256), (i 20, i 128), (i 21, i 256), (i 22, i 256), (i 23, i 0), (i 24, i 2304), (i 25, i 704), (i 26, i 0), (i 27, i 0), (i 28, i 0), (i 29, i 0), (i 30, i 32)]
set_option maxRecDepth 1000000 in
theorem bound_each : (boundT.all fun e => flats [e.1] && e.2.flat && callB Try.prog reachedC 300 30 [e.1] (emp 0) fun v _ => v.eqb e.2) = true := by kernel_rfl
theorem bound_pure {a b : LV} (h : (a, b) ∈ boundT) : Pure Try.prog 30 [a] b := by
  have := List.all_eq_true.1 bound_each (a, b) h
  exact pure_computed Try.mixed fineC this
def bound'T : List (LV × LV) := [(i 1, i 0), (i 2, i 960), (i 3, i 32), (i 4, i 0), (i 5, i 0), (i 6, i 128), (i 7, i 32), (i 8, i 0), (i 9, i 32), (i 10, i 0), (i 11, i 32), (i 12, i 32), (i 13, i 320), (i 14, i 0), (i 15, i 32), (i 16, i 32), (i 17, i 0), (i 18, i 704), (i 19, i 256), (i 20, i 128), (i 21, i 256), (i 22, i 256), (i 23, i 0), (i 24, i 2304), (i 25, i 704), (i 26, i 0), (i 27, i 0), (i 28, i 0), (i 29, i 0), (i 30, i 32)]
set_option maxRecDepth 1000000 in
theorem bound'_each : (bound'T.all fun e => flats [e.1] && e.2.flat && callB Try.prog reachedC 300 31 [e.1] (emp 0) fun v _ => v.eqb e.2) = true := by kernel_rfl
theorem bound'_pure {a b : LV} (h : (a, b) ∈ bound'T) : Pure Try.prog 31 [a] b := by
  have := List.all_eq_true.1 bound'_each (a, b) h
  exact pure_computed Try.mixed fineC this
set_option maxRecDepth 1000000 in
theorem name_low (n : Int) : callQ Try.prog reachedC [] [(59, [(7, .bool true)])] 300 28 [i n] (emp 0) (fun v _ => v = (LV.str [])) = (binL Try.prog .lss 3 true (i n) (i 1) = some (.bool true) ∧ (LV.str []) = (LV.str [])) := by kernel_rfl
set_option maxRecDepth 1000000 in
theorem name_high (n : Int) : callQ Try.prog reachedC [] [(59, [(7, .bool false), (12, .bool true)])] 300 28 [i n] (emp 0) (fun v _ => v = (LV.str [])) = (binL Try.prog .lss 3 true (i n) (i 1) = some (.bool false) ∧ binL Try.prog .gtr 3 false (i n) (i 30) = some (.bool true) ∧ (LV.str []) = (LV.str [])) := by kernel_rfl
theorem name_none {n : Int} (h : n < 1 ∨ 30 < n) : Pure Try.prog 28 [i n] (LV.str []) := by
  by_cases h1 : n < 1
  · exact pure_asked' Try.mixed fineC rfl (name_low n) ⟨by rw [binL_lss_int, decide_eq_true h1], rfl⟩
  · exact pure_asked' Try.mixed fineC rfl (name_high n) ⟨by rw [binL_lss_int, decide_eq_false h1], by rw [binL_gtr_int, decide_eq_true (by omega)], rfl⟩
set_option maxRecDepth 1000000 in
theorem count_low (n : Int) : callQ Try.prog reachedC [] [(59, [(7, .bool true)])] 300 29 [i n] (emp 0) (fun v _ => v = (i 0)) = (binL Try.prog .lss 3 true (i n) (i 1) = some (.bool true) ∧ (i 0) = (i 0)) := by kernel_rfl
set_option maxRecDepth 1000000 in
theorem count_high (n : Int) : callQ Try.prog reachedC [] [(59, [(7, .bool false), (12, .bool true)])] 300 29 [i n] (emp 0) (fun v _ => v = (i 0)) = (binL Try.prog .lss 3 true (i n) (i 1) = some (.bool false) ∧ binL Try.prog .gtr 3 false (i n) (i 30) = some (.bool true) ∧ (i 0) = (i 0)) := by kernel_rfl
theorem count_none {n : Int} (h : n < 1 ∨ 30 < n) : Pure Try.prog 29 [i n] (i 0) := by
  by_cases h1 : n < 1
  · exact pure_asked' Try.mixed fineC rfl (count_low n) ⟨by rw [binL_lss_int, decide_eq_true h1], rfl⟩
  · exact pure_asked' Try.mixed fineC rfl (count_high n) ⟨by rw [binL_lss_int, decide_eq_false h1], by rw [binL_gtr_int, decide_eq_true (by omega)], rfl⟩
set_option maxRecDepth 1000000 in
theorem bound_low (n : Int) : callQ Try.prog reachedC [] [(59, [(7, .bool true)])] 300 30 [i n] (emp 0) (fun v _ => v = (i 0)) = (binL Try.prog .lss 3 true (i n) (i 1) = some (.bool true) ∧ (i 0) = (i 0)) := by kernel_rfl
set_option maxRecDepth 1000000 in
theorem bound_high (n : Int) : callQ Try.prog reachedC [] [(59, [(7, .bool false), (12, .bool true)])] 300 30 [i n] (emp 0) (fun v _ => v = (i 0)) = (binL Try.prog .lss 3 true (i n) (i 1) = some (.bool false) ∧ binL Try.prog .gtr 3 false (i n) (i 30) = some (.bool true) ∧ (i 0) = (i 0)) := by kernel_rfl
theorem bound_none {n : Int} (h : n < 1 ∨ 30 < n) : Pure Try.prog 30 [i n] (i 0) := by
  by_cases h1 : n < 1
  · exact pure_asked' Try.mixed fineC rfl (bound_low n) ⟨by rw [binL_lss_int, decide_eq_true h1], rfl⟩
  · exact pure_asked' Try.mixed fineC rfl (bound_high n) ⟨by rw [binL_lss_int, decide_eq_false h1], by rw [binL_gtr_int, decide_eq_true (by omega)], rfl⟩
set_option maxRecDepth 1000000 in
theorem bound'_low (n : Int) : callQ Try.prog reachedC [] [(26, [(6, .bool true)])] 300 31 [i n] (emp 0) (fun v _ => v = (i 0)) = (binL Try.prog .lss 3 true (i n) (i 1) = some (.bool true) ∧ (i 0) = (i 0)) := by kernel_rfl
set_option maxRecDepth 1000000 in
theorem bound'_high (n : Int) : callQ Try.prog reachedC [] [(26, [(6, .bool false), (11, .bool true)])] 300 31 [i n] (emp 0) (fun v _ => v = (i 0)) = (binL Try.prog .lss 3 true (i n) (i 1) = some (.bool false) ∧ binL Try.prog .geq 3 false (i n) (i 31) = some (.bool true) ∧ (i 0) = (i 0)) := by kernel_rfl
theorem bound'_none {n : Int} (h : n < 1 ∨ 30 < n) : Pure Try.prog 31 [i n] (i 0) := by
  by_cases h1 : n < 1
  · exact pure_asked' Try.mixed fineC rfl (bound'_low n) ⟨by rw [binL_lss_int, decide_eq_true h1], rfl⟩
  · exact pure_asked' Try.mixed fineC rfl (bound'_high n) ⟨by rw [binL_lss_int, decide_eq_false h1], by rw [binL_geq_int, decide_eq_true (by omega)], rfl⟩
set_option maxRecDepth 1000000 in
theorem most_asked : callQ Try.prog reachedC [(30, fun a => i (intOf (tblOf boundT (i 0) (a.headD .nilp))))] [] 300 32 [] (emp 0) (fun v _ => v = i 2304) = (Pure Try.prog 30 [i 1] (i 0) ∧ Pure Try.prog 30 [i 2] (i 960) ∧ Pure Try.prog 30 [i 3] (i 32) ∧ Pure Try.prog 30 [i 4] (i 0) ∧ Pure Try.prog 30 [i 5] (i 0) ∧ Pure Try.prog 30 [i 6] (i 128) ∧ Pure Try.prog 30 [i 7] (i 32) ∧ Pure Try.prog 30 [i 8] (i 0) ∧ Pure Try.prog 30 [i 9] (i 32) ∧ Pure Try.prog 30 [i 10] (i 0) ∧ Pure Try.prog 30 [i 11] (i 32) ∧ Pure Try.prog 30 [i 12] (i 32) ∧ Pure Try.prog 30 [i 13] (i 320) ∧ Pure Try.prog 30 [i 14] (i 0) ∧ Pure Try.prog 30 [i 15] (i 32) ∧ Pure Try.prog 30 [i 16] (i 32) ∧ Pure Try.prog 30 [i 17] (i 0) ∧ Pure Try.prog 30 [i 18] (i 704) ∧ Pure Try.prog 30 [i 19] (i 256) ∧ Pure Try.prog 30 [i 20] (i 128) ∧ Pure Try.prog 30 [i 21] (i 256) ∧ Pure Try.prog 30 [i 22] (i 256) ∧ Pure Try.prog 30 [i 23] (i 0) ∧ Pure Try.prog 30 [i 24] (i 2304) ∧ Pure Try.prog 30 [i 25] (i 704) ∧ Pure Try.prog 30 [i 26] (i 0) ∧ Pure Try.prog 30 [i 27] (i 0) ∧ Pure Try.prog 30 [i 28] (i 0) ∧ Pure Try.prog 30 [i 29] (i 0) ∧ Pure Try.prog 30 [i 30] (i 32) ∧ i 2304 = i 2304) := by kernel_rfl
theorem most_pure : Pure Try.prog 32 [] (i 2304) := pure_asked' Try.mixed fineC rfl most_asked ⟨bound_pure (List.mem_of_getElem? (i := 0) rfl), bound_pure (List.mem_of_getElem? (i := 1) rfl), bound_pure (List.mem_of_getElem? (i := 2) rfl), bound_pure (List.mem_of_getElem? (i := 3) rfl), bound_pure (List.mem_of_getElem? (i := 4) rfl), bound_pure (List.mem_of_getElem? (i := 5) rfl), bound_pure (List.mem_of_getElem? (i := 6) rfl), bound_pure (List.mem_of_getElem? (i := 7) rfl), bound_pure (List.mem_of_getElem? (i := 8) rfl), bound_pure (List.mem_of_getElem? (i := 9) rfl), bound_pure (List.mem_of_getElem? (i := 10) rfl), bound_pure (List.mem_of_getElem? (i := 11) rfl), bound_pure (List.mem_of_getElem? (i := 12) rfl), bound_pure (List.mem_of_getElem? (i := 13) rfl), bound_pure (List.mem_of_getElem? (i := 14) rfl), bound_pure (List.mem_of_getElem? (i := 15) rfl), bound_pure (List.mem_of_getElem? (i := 16) rfl), bound_pure (List.mem_of_getElem? (i := 17) rfl), bound_pure (List.mem_of_getElem? (i := 18) rfl), bound_pure (List.mem_of_getElem? (i := 19) rfl), bound_pure (List.mem_of_getElem? (i := 20) rfl), bound_pure (List.mem_of_getElem? (i := 21) rfl), bound_pure (List.mem_of_getElem? (i := 22) rfl), bound_pure (List.mem_of_getElem? (i := 23) rfl), bound_pure (List.mem_of_getElem? (i := 24) rfl), bound_pure (List.mem_of_getElem? (i := 25) rfl), bound_pure (List.mem_of_getElem? (i := 26) rfl), bound_pure (List.mem_of_getElem? (i := 27) rfl), bound_pure (List.mem_of_getElem? (i := 28) rfl), bound_pure (List.mem_of_getElem? (i := 29) rfl), rfl⟩
set_option maxRecDepth 1000000 in
theorem most'_asked : callQ Try.prog reachedC [(31, fun a => i (intOf (tblOf bound'T (i 0) (a.headD .nilp))))] [] 300 33 [] (emp 0) (fun v _ => v = i 2304) = (Pure Try.prog 31 [i 1] (i 0) ∧ Pure Try.prog 31 [i 2] (i 960) ∧ Pure Try.prog 31 [i 3] (i 32) ∧ Pure Try.prog 31 [i 4] (i 0) ∧ Pure Try.prog 31 [i 5] (i 0) ∧ Pure Try.prog 31 [i 6] (i 128) ∧ Pure Try.prog 31 [i 7] (i 32) ∧ Pure Try.prog 31 [i 8] (i 0) ∧ Pure Try.prog 31 [i 9] (i 32) ∧ Pure Try.prog 31 [i 10] (i 0) ∧ Pure Try.prog 31 [i 11] (i 32) ∧ Pure Try.prog 31 [i 12] (i 32) ∧ Pure Try.prog 31 [i 13] (i 320) ∧ Pure Try.prog 31 [i 14] (i 0) ∧ Pure Try.prog 31 [i 15] (i 32) ∧ Pure Try.prog 31 [i 16] (i 32) ∧ Pure Try.prog 31 [i 17] (i 0) ∧ Pure Try.prog 31 [i 18] (i 704) ∧ Pure Try.prog 31 [i 19] (i 256) ∧ Pure Try.prog 31 [i 20] (i 128) ∧ Pure Try.prog 31 [i 21] (i 256) ∧ Pure Try.prog 31 [i 22] (i 256) ∧ Pure Try.prog 31 [i 23] (i 0) ∧ Pure Try.prog 31 [i 24] (i 2304) ∧ Pure Try.prog 31 [i 25] (i 704) ∧ Pure Try.prog 31 [i 26] (i 0) ∧ Pure Try.prog 31 [i 27] (i 0) ∧ Pure Try.prog 31 [i 28] (i 0) ∧ Pure Try.prog 31 [i 29] (i 0) ∧ Pure Try.prog 31 [i 30] (i 32) ∧ i 2304 = i 2304) := by kernel_rfl
theorem most'_pure : Pure Try.prog 33 [] (i 2304) := pure_asked' Try.mixed fineC rfl most'_asked ⟨bound'_pure (List.mem_of_getElem? (i := 0) rfl), bound'_pure (List.mem_of_getElem? (i := 1) rfl), bound'_pure (List.mem_of_getElem? (i := 2) rfl), bound'_pure (List.mem_of_getElem? (i := 3) rfl), bound'_pure (List.mem_of_getElem? (i := 4) rfl), bound'_pure (List.mem_of_getElem? (i := 5) rfl), bound'_pure (List.mem_of_getElem? (i := 6) rfl), bound'_pure (List.mem_of_getElem? (i := 7) rfl), bound'_pure (List.mem_of_getElem? (i := 8) rfl), bound'_pure (List.mem_of_getElem? (i := 9) rfl), bound'_pure (List.mem_of_getElem? (i := 10) rfl), bound'_pure (List.mem_of_getElem? (i := 11) rfl), bound'_pure (List.mem_of_getElem? (i := 12) rfl), bound'_pure (List.mem_of_getElem? (i := 13) rfl), bound'_pure (List.mem_of_getElem? (i := 14) rfl), bound'_pure (List.mem_of_getElem? (i := 15) rfl), bound'_pure (List.mem_of_getElem? (i := 16) rfl), bound'_pure (List.mem_of_getElem? (i := 17) rfl), bound'_pure (List.mem_of_getElem? (i := 18) rfl), bound'_pure (List.mem_of_getElem? (i := 19) rfl), bound'_pure (List.mem_of_getElem? (i := 20) rfl), bound'_pure (List.mem_of_getElem? (i := 21) rfl), bound'_pure (List.mem_of_getElem? (i := 22) rfl), bound'_pure (List.mem_of_getElem? (i := 23) rfl), bound'_pure (List.mem_of_getElem? (i := 24) rfl), bound'_pure (List.mem_of_getElem? (i := 25) rfl), bound'_pure (List.mem_of_getElem? (i := 26) rfl), bound'_pure (List.mem_of_getElem? (i := 27) rfl), bound'_pure (List.mem_of_getElem? (i := 28) rfl), bound'_pure (List.mem_of_getElem? (i := 29) rfl), rfl⟩
def numT : List (LV × LV) := [((.str [101, 120, 105, 116]), .tuple [i 1, .bool true]), ((.str [102, 111, 114, 107]), .tuple [i 2, .bool true]), ((.str [119, 97, 105, 116]), .tuple [i 3, .bool true]), ((.str [107, 105, 108, 108]), .tuple [i 4, .bool true]), ((.str [103, 101, 116, 112, 105, 100]), .tuple [i 5, .bool true]), ((.str [115, 112, 97, 119, 110]), .tuple [i 6, .bool true]), ((.str [106, 111, 105, 110]), .tuple [i 7, .bool true]), ((.str [116, 101, 120, 105, 116]), .tuple [i 8, .bool true]), ((.str [102, 119, 97, 105, 116]), .tuple [i 9, .bool true]), ((.str [102, 119, 97, 107, 101]), .tuple [i 10, .bool true]), ((.str [109, 109, 97, 112]), .tuple [i 11, .bool true]), ((.str [109, 117, 110, 109, 97, 112]), .tuple [i 12, .bool true]), ((.str [111, 112, 101, 110]), .tuple [i 13, .bool true]), ((.str [99, 108, 111, 115, 101]), .tuple [i 14, .bool true]), ((.str [114, 101, 97, 100]), .tuple [i 15, .bool true]), ((.str [119, 114, 105, 116, 101]), .tuple [i 16, .bool true]), ((.str [100, 117, 112]), .tuple [i 17, .bool true]), ((.str [112, 105, 112, 101]), .tuple [i 18, .bool true]), ((.str [109, 107, 100, 105, 114]), .tuple [i 19, .bool true]), ((.str [117, 110, 108, 105, 110, 107]), .tuple [i 20, .bool true]), ((.str [108, 105, 110, 107]), .tuple [i 21, .bool true]), ((.str [114, 101, 110, 97, 109, 101]), .tuple [i 22, .bool true]), ((.str [115, 105, 122, 101]), .tuple [i 23, .bool true]), ((.str [115, 121, 110, 99]), .tuple [i 24, .bool true]), ((.str [101, 120, 101, 99]), .tuple [i 25, .bool true]), ((.str [121, 105, 101, 108, 100]), .tuple [i 26, .bool true]), ((.str [115, 101, 101, 107]), .tuple [i 27, .bool true]), ((.str [103, 101, 116, 116, 105, 100]), .tuple [i 28, .bool true]), ((.str [116, 105, 99, 107, 115]), .tuple [i 29, .bool true]), ((.str [112, 111, 108, 108]), .tuple [i 30, .bool true])]
def names : List (List UInt8) := [[101, 120, 105, 116], [102, 111, 114, 107], [119, 97, 105, 116], [107, 105, 108, 108], [103, 101, 116, 112, 105, 100], [115, 112, 97, 119, 110], [106, 111, 105, 110], [116, 101, 120, 105, 116], [102, 119, 97, 105, 116], [102, 119, 97, 107, 101], [109, 109, 97, 112], [109, 117, 110, 109, 97, 112], [111, 112, 101, 110], [99, 108, 111, 115, 101], [114, 101, 97, 100], [119, 114, 105, 116, 101], [100, 117, 112], [112, 105, 112, 101], [109, 107, 100, 105, 114], [117, 110, 108, 105, 110, 107], [108, 105, 110, 107], [114, 101, 110, 97, 109, 101], [115, 105, 122, 101], [115, 121, 110, 99], [101, 120, 101, 99], [121, 105, 101, 108, 100], [115, 101, 101, 107], [103, 101, 116, 116, 105, 100], [116, 105, 99, 107, 115], [112, 111, 108, 108]]
set_option maxRecDepth 1000000 in
theorem num_each : (numT.all fun e => flats [e.1] && e.2.flat && callB Try.prog reachedC 300 35 [e.1] (emp 0) fun v _ => v.eqb e.2) = true := by kernel_rfl
set_option maxRecDepth 1000000 in
theorem num'_each : (numT.all fun e => flats [e.1] && e.2.flat && callB Try.prog reachedC 300 36 [e.1] (emp 0) fun v _ => v.eqb e.2) = true := by kernel_rfl
set_option maxRecDepth 1000000 in
theorem num_asked (x : List UInt8) : callQ Try.prog reachedC [] [(65, [(7, .bool false)])] 300 35 [.str x] (emp 0) (fun v _ => v = .tuple [i 0, .bool false]) = noStr Try.prog 9 false x names (LV.tuple [i 0, .bool false] = .tuple [i 0, .bool false]) := by kernel_rfl
set_option maxRecDepth 1000000 in
theorem num'_asked (x : List UInt8) : callQ Try.prog reachedC [] [(36, [(19, .bool false)])] 300 36 [.str x] (emp 0) (fun v _ => v = .tuple [i 0, .bool false]) = noStr Try.prog 9 false x names (LV.tuple [i 0, .bool false] = .tuple [i 0, .bool false]) := by kernel_rfl
theorem names_ok : (names.all fun k => numT.any fun e => e.1.eqb (.str k)) = true := by kernel_rfl
theorem names_ne {x : List UInt8} (h : ∀ e ∈ numT, e.1.eqb (.str x) = false) : ∀ k ∈ names, x ≠ k := by
  rintro k hkm rfl
  obtain ⟨e, he, hb⟩ := List.any_eq_true.1 (List.all_eq_true.1 names_ok x hkm)
  rw [h e he] at hb
  cases hb
def fstOf : LV → Int
  | .tuple [.int _ n, _] => n
  | _ => 0
def sndOf : LV → Bool
  | .tuple [_, .bool b] => b
  | _ => false
def numN (x : List UInt8) : Int := fstOf (tblOf numT (.tuple [i 0, .bool false]) (.str x))
def numB (x : List UInt8) : Bool := sndOf (tblOf numT (.tuple [i 0, .bool false]) (.str x))
theorem num_vals : (numT.all fun e => e.2.eqb (.tuple [i (fstOf e.2), .bool (sndOf e.2)])) = true := by kernel_rfl
theorem num_eq (x : List UInt8) : tblOf numT (.tuple [i 0, .bool false]) (.str x) = .tuple [i (numN x), .bool (numB x)] := by
  unfold numN numB
  exact tblOf_cases (Q := fun _ r => r = .tuple [i (fstOf r), .bool (sndOf r)]) (fun e he => LV.eqb_eq _ _ (List.all_eq_true.1 num_vals e he)) (fun _ => rfl)
theorem num_pure (x : List UInt8) : Pure Try.prog 35 [.str x] (.tuple [i (numN x), .bool (numB x)]) := by
  rw [← num_eq]
  exact pure_table Try.mixed fineC num_each fun h => pure_asked' Try.mixed fineC rfl (num_asked x) (noStr_of rfl (names_ne h))
theorem num'_pure (x : List UInt8) : Pure Try.prog 36 [.str x] (.tuple [i (numN x), .bool (numB x)]) := by
  rw [← num_eq]
  exact pure_table Try.mixed fineC num'_each fun h => pure_asked' Try.mixed fineC rfl (num'_asked x) (noStr_of rfl (names_ne h))

end Go.Proofs.Ytaofgdibpbpalaa
