/-
  parapetlaw26.CallDecodes returns true for every processor: no condition. Its call is computed on the logical machine for each number of a call in turn, for greater numbers, and for those that are none; all other registers are left open.
-/
import Derived.Test.YtaofgdibpbpalaaCom
import Derived.IntWalk
namespace Go.Proofs.Ytaofgdibpbpalaa
open Go.ChangeShapes Go.WideShapes Go.ChangeAt Go.RowKit Go.Lm

theorem alls_array {P : Program} {g : LHeap} {n m : Nat} {t e : TypeId} {ts : List TypeId} {yss : List (List LV)} (ht : P.underlying t = some (.array m e)) (h : Alls (Shp P g (n + 1)) (t :: ts) yss) :
    ∃ xss zss, yss = xss.flatten :: zss ∧ Alls (Shp P g n) (List.replicate m e) xss ∧ Alls (Shp P g (n + 1)) ts zss := by
  cases yss with
  | nil => exact h.elim
  | cons y yss =>
    obtain ⟨h1, h2⟩ := h
    unfold Shp at h1
    rw [ht] at h1
    obtain ⟨xss, rfl, _, h3⟩ := h1
    exact ⟨xss, yss, rfl, h3, h2⟩
abbrev u (n : Int) : LV := .int .u32 n
theorem u36 : Try.prog.underlying 36 = some (.int .u32) := by kernel_rfl
theorem u37 : Try.prog.underlying 37 = some (.array 16 36) := by kernel_rfl
theorem int_eq (d : Nat) (a b : Int) : eqTy Try.prog (d + 1) 3 (i a) (i b) = some (a == b) := by simp only [eqTy, u3, if_true]
theorem u32_eq (d : Nat) (a b : Int) : eqTy Try.prog (d + 1) 36 (u a) (u b) = some (a == b) := by simp only [eqTy, u36, if_true]
set_option maxRecDepth 1000000 in
theorem trap_step (n a b c e n' a' b' c' e' : Int) : eqTy Try.prog 60 42 (.agg [i n, u a, u b, u c, u e]) (.agg [i n', u a', u b', u c', u e']) =
  (match eqTy Try.prog (57 + 1) 3 (i n) (i n') with
   | some true => (match (match eqTy Try.prog (54 + 1) 36 (u a) (u a') with
       | some true => (match eqTy Try.prog (53 + 1) 36 (u b) (u b') with
         | some true => (match eqTy Try.prog (52 + 1) 36 (u c) (u c') with
           | some true => (match eqTy Try.prog (51 + 1) 36 (u e) (u e') with
             | some true => some true
             | some false => some false
             | none => none)
           | some false => some false
           | none => none)
         | some false => some false
         | none => none)
       | some false => some false
       | none => none) with
     | some true => some true
     | some false => some false
     | none => none)
   | some false => some false
   | none => none) := by kernel_rfl
theorem trap_eq (n a b c e : Int) : binL Try.prog .eql 42 false (.agg [i n, u a, u b, u c, u e]) (.agg [i n, u a, u b, u c, u e]) = some (.bool true) := by
  have h : (if Try.prog.eqGuardType Try.prog.depth 42 then none else eqTy Try.prog 60 42 (.agg [i n, u a, u b, u c, u e]) (.agg [i n, u a, u b, u c, u e])) = eqTy Try.prog 60 42 (.agg [i n, u a, u b, u c, u e]) (.agg [i n, u a, u b, u c, u e]) := by
    rw [if_neg]; rw [show Try.prog.eqGuardType Try.prog.depth 42 = false from by kernel_rfl]; decide
  simp only [binL, eqL]
  rw [h, trap_step, int_eq, u32_eq, u32_eq, u32_eq, u32_eq]
  simp only [beq_self_eq_true, Option.map_some]
set_option maxRecDepth 1000000 in
theorem fine6 : [6, 19, 20, 59, 26, 62, 60, 82, 83].all (fineF Try.prog) = true := by kernel_rfl
set_option maxRecDepth 1000000 in
theorem dec_0 (r0 r2 r3 r4 r5 r6 r7 r8 r9 r10 r11 r12 r13 r14 r15 pc : Int) : callQ Try.prog [6, 19, 20, 59, 26, 62, 60, 82, 83] known1 [(6, [(21, .bool true)])] 300 6 [.agg [u r0, u 0, u r2, u r3, u r4, u r5, u r6, u r7, u r8, u r9, u r10, u r11, u r12, u r13, u r14, u r15, u pc]] (emp 0) (fun v _ => v = .bool true) = (Pure Try.prog 13 [] (.bool true) ∧ binL Try.prog .eql 42 false (.agg [i 0, u r2, u r3, u r4, u r5]) (.agg [i 0, u r2, u r3, u r4, u r5]) = some (.bool true) ∧ LV.bool true = LV.bool true) := by kernel_rfl
set_option maxRecDepth 1000000 in
theorem dec_1 (r0 r2 r3 r4 r5 r6 r7 r8 r9 r10 r11 r12 r13 r14 r15 pc : Int) : callQ Try.prog [6, 19, 20, 59, 26, 62, 60, 82, 83] known1 [(6, [(21, .bool true)])] 300 6 [.agg [u r0, u 1, u r2, u r3, u r4, u r5, u r6, u r7, u r8, u r9, u r10, u r11, u r12, u r13, u r14, u r15, u pc]] (emp 0) (fun v _ => v = .bool true) = (Pure Try.prog 13 [] (.bool true) ∧ binL Try.prog .eql 42 false (.agg [i 1, u r2, u r3, u r4, u r5]) (.agg [i 1, u r2, u r3, u r4, u r5]) = some (.bool true) ∧ LV.bool true = LV.bool true) := by kernel_rfl
set_option maxRecDepth 1000000 in
theorem dec_2 (r0 r2 r3 r4 r5 r6 r7 r8 r9 r10 r11 r12 r13 r14 r15 pc : Int) : callQ Try.prog [6, 19, 20, 59, 26, 62, 60, 82, 83] known1 [(6, [(21, .bool true)])] 300 6 [.agg [u r0, u 2, u r2, u r3, u r4, u r5, u r6, u r7, u r8, u r9, u r10, u r11, u r12, u r13, u r14, u r15, u pc]] (emp 0) (fun v _ => v = .bool true) = (Pure Try.prog 13 [] (.bool true) ∧ binL Try.prog .eql 42 false (.agg [i 2, u r2, u r3, u r4, u r5]) (.agg [i 2, u r2, u r3, u r4, u r5]) = some (.bool true) ∧ LV.bool true = LV.bool true) := by kernel_rfl
set_option maxRecDepth 1000000 in
theorem dec_3 (r0 r2 r3 r4 r5 r6 r7 r8 r9 r10 r11 r12 r13 r14 r15 pc : Int) : callQ Try.prog [6, 19, 20, 59, 26, 62, 60, 82, 83] known1 [(6, [(21, .bool true)])] 300 6 [.agg [u r0, u 3, u r2, u r3, u r4, u r5, u r6, u r7, u r8, u r9, u r10, u r11, u r12, u r13, u r14, u r15, u pc]] (emp 0) (fun v _ => v = .bool true) = (Pure Try.prog 13 [] (.bool true) ∧ binL Try.prog .eql 42 false (.agg [i 3, u r2, u r3, u r4, u r5]) (.agg [i 3, u r2, u r3, u r4, u r5]) = some (.bool true) ∧ LV.bool true = LV.bool true) := by kernel_rfl
set_option maxRecDepth 1000000 in
theorem dec_4 (r0 r2 r3 r4 r5 r6 r7 r8 r9 r10 r11 r12 r13 r14 r15 pc : Int) : callQ Try.prog [6, 19, 20, 59, 26, 62, 60, 82, 83] known1 [(6, [(21, .bool true)])] 300 6 [.agg [u r0, u 4, u r2, u r3, u r4, u r5, u r6, u r7, u r8, u r9, u r10, u r11, u r12, u r13, u r14, u r15, u pc]] (emp 0) (fun v _ => v = .bool true) = (Pure Try.prog 13 [] (.bool true) ∧ binL Try.prog .eql 42 false (.agg [i 4, u r2, u r3, u r4, u r5]) (.agg [i 4, u r2, u r3, u r4, u r5]) = some (.bool true) ∧ LV.bool true = LV.bool true) := by kernel_rfl
set_option maxRecDepth 1000000 in
theorem dec_5 (r0 r2 r3 r4 r5 r6 r7 r8 r9 r10 r11 r12 r13 r14 r15 pc : Int) : callQ Try.prog [6, 19, 20, 59, 26, 62, 60, 82, 83] known1 [(6, [(21, .bool true)])] 300 6 [.agg [u r0, u 5, u r2, u r3, u r4, u r5, u r6, u r7, u r8, u r9, u r10, u r11, u r12, u r13, u r14, u r15, u pc]] (emp 0) (fun v _ => v = .bool true) = (Pure Try.prog 13 [] (.bool true) ∧ binL Try.prog .eql 42 false (.agg [i 5, u r2, u r3, u r4, u r5]) (.agg [i 5, u r2, u r3, u r4, u r5]) = some (.bool true) ∧ LV.bool true = LV.bool true) := by kernel_rfl
set_option maxRecDepth 1000000 in
theorem dec_6 (r0 r2 r3 r4 r5 r6 r7 r8 r9 r10 r11 r12 r13 r14 r15 pc : Int) : callQ Try.prog [6, 19, 20, 59, 26, 62, 60, 82, 83] known1 [(6, [(21, .bool true)])] 300 6 [.agg [u r0, u 6, u r2, u r3, u r4, u r5, u r6, u r7, u r8, u r9, u r10, u r11, u r12, u r13, u r14, u r15, u pc]] (emp 0) (fun v _ => v = .bool true) = (Pure Try.prog 13 [] (.bool true) ∧ binL Try.prog .eql 42 false (.agg [i 6, u r2, u r3, u r4, u r5]) (.agg [i 6, u r2, u r3, u r4, u r5]) = some (.bool true) ∧ LV.bool true = LV.bool true) := by kernel_rfl
set_option maxRecDepth 1000000 in
theorem dec_7 (r0 r2 r3 r4 r5 r6 r7 r8 r9 r10 r11 r12 r13 r14 r15 pc : Int) : callQ Try.prog [6, 19, 20, 59, 26, 62, 60, 82, 83] known1 [(6, [(21, .bool true)])] 300 6 [.agg [u r0, u 7, u r2, u r3, u r4, u r5, u r6, u r7, u r8, u r9, u r10, u r11, u r12, u r13, u r14, u r15, u pc]] (emp 0) (fun v _ => v = .bool true) = (Pure Try.prog 13 [] (.bool true) ∧ binL Try.prog .eql 42 false (.agg [i 7, u r2, u r3, u r4, u r5]) (.agg [i 7, u r2, u r3, u r4, u r5]) = some (.bool true) ∧ LV.bool true = LV.bool true) := by kernel_rfl
set_option maxRecDepth 1000000 in
theorem dec_8 (r0 r2 r3 r4 r5 r6 r7 r8 r9 r10 r11 r12 r13 r14 r15 pc : Int) : callQ Try.prog [6, 19, 20, 59, 26, 62, 60, 82, 83] known1 [(6, [(21, .bool true)])] 300 6 [.agg [u r0, u 8, u r2, u r3, u r4, u r5, u r6, u r7, u r8, u r9, u r10, u r11, u r12, u r13, u r14, u r15, u pc]] (emp 0) (fun v _ => v = .bool true) = (Pure Try.prog 13 [] (.bool true) ∧ binL Try.prog .eql 42 false (.agg [i 8, u r2, u r3, u r4, u r5]) (.agg [i 8, u r2, u r3, u r4, u r5]) = some (.bool true) ∧ LV.bool true = LV.bool true) := by kernel_rfl
set_option maxRecDepth 1000000 in
theorem dec_9 (r0 r2 r3 r4 r5 r6 r7 r8 r9 r10 r11 r12 r13 r14 r15 pc : Int) : callQ Try.prog [6, 19, 20, 59, 26, 62, 60, 82, 83] known1 [(6, [(21, .bool true)])] 300 6 [.agg [u r0, u 9, u r2, u r3, u r4, u r5, u r6, u r7, u r8, u r9, u r10, u r11, u r12, u r13, u r14, u r15, u pc]] (emp 0) (fun v _ => v = .bool true) = (Pure Try.prog 13 [] (.bool true) ∧ binL Try.prog .eql 42 false (.agg [i 9, u r2, u r3, u r4, u r5]) (.agg [i 9, u r2, u r3, u r4, u r5]) = some (.bool true) ∧ LV.bool true = LV.bool true) := by kernel_rfl
set_option maxRecDepth 1000000 in
theorem dec_10 (r0 r2 r3 r4 r5 r6 r7 r8 r9 r10 r11 r12 r13 r14 r15 pc : Int) : callQ Try.prog [6, 19, 20, 59, 26, 62, 60, 82, 83] known1 [(6, [(21, .bool true)])] 300 6 [.agg [u r0, u 10, u r2, u r3, u r4, u r5, u r6, u r7, u r8, u r9, u r10, u r11, u r12, u r13, u r14, u r15, u pc]] (emp 0) (fun v _ => v = .bool true) = (Pure Try.prog 13 [] (.bool true) ∧ binL Try.prog .eql 42 false (.agg [i 10, u r2, u r3, u r4, u r5]) (.agg [i 10, u r2, u r3, u r4, u r5]) = some (.bool true) ∧ LV.bool true = LV.bool true) := by kernel_rfl
set_option maxRecDepth 1000000 in
theorem dec_11 (r0 r2 r3 r4 r5 r6 r7 r8 r9 r10 r11 r12 r13 r14 r15 pc : Int) : callQ Try.prog [6, 19, 20, 59, 26, 62, 60, 82, 83] known1 [(6, [(21, .bool true)])] 300 6 [.agg [u r0, u 11, u r2, u r3, u r4, u r5, u r6, u r7, u r8, u r9, u r10, u r11, u r12, u r13, u r14, u r15, u pc]] (emp 0) (fun v _ => v = .bool true) = (Pure Try.prog 13 [] (.bool true) ∧ binL Try.prog .eql 42 false (.agg [i 11, u r2, u r3, u r4, u r5]) (.agg [i 11, u r2, u r3, u r4, u r5]) = some (.bool true) ∧ LV.bool true = LV.bool true) := by kernel_rfl
set_option maxRecDepth 1000000 in
theorem dec_12 (r0 r2 r3 r4 r5 r6 r7 r8 r9 r10 r11 r12 r13 r14 r15 pc : Int) : callQ Try.prog [6, 19, 20, 59, 26, 62, 60, 82, 83] known1 [(6, [(21, .bool true)])] 300 6 [.agg [u r0, u 12, u r2, u r3, u r4, u r5, u r6, u r7, u r8, u r9, u r10, u r11, u r12, u r13, u r14, u r15, u pc]] (emp 0) (fun v _ => v = .bool true) = (Pure Try.prog 13 [] (.bool true) ∧ binL Try.prog .eql 42 false (.agg [i 12, u r2, u r3, u r4, u r5]) (.agg [i 12, u r2, u r3, u r4, u r5]) = some (.bool true) ∧ LV.bool true = LV.bool true) := by kernel_rfl
set_option maxRecDepth 1000000 in
theorem dec_13 (r0 r2 r3 r4 r5 r6 r7 r8 r9 r10 r11 r12 r13 r14 r15 pc : Int) : callQ Try.prog [6, 19, 20, 59, 26, 62, 60, 82, 83] known1 [(6, [(21, .bool true)])] 300 6 [.agg [u r0, u 13, u r2, u r3, u r4, u r5, u r6, u r7, u r8, u r9, u r10, u r11, u r12, u r13, u r14, u r15, u pc]] (emp 0) (fun v _ => v = .bool true) = (Pure Try.prog 13 [] (.bool true) ∧ binL Try.prog .eql 42 false (.agg [i 13, u r2, u r3, u r4, u r5]) (.agg [i 13, u r2, u r3, u r4, u r5]) = some (.bool true) ∧ LV.bool true = LV.bool true) := by kernel_rfl
set_option maxRecDepth 1000000 in
theorem dec_14 (r0 r2 r3 r4 r5 r6 r7 r8 r9 r10 r11 r12 r13 r14 r15 pc : Int) : callQ Try.prog [6, 19, 20, 59, 26, 62, 60, 82, 83] known1 [(6, [(21, .bool true)])] 300 6 [.agg [u r0, u 14, u r2, u r3, u r4, u r5, u r6, u r7, u r8, u r9, u r10, u r11, u r12, u r13, u r14, u r15, u pc]] (emp 0) (fun v _ => v = .bool true) = (Pure Try.prog 13 [] (.bool true) ∧ binL Try.prog .eql 42 false (.agg [i 14, u r2, u r3, u r4, u r5]) (.agg [i 14, u r2, u r3, u r4, u r5]) = some (.bool true) ∧ LV.bool true = LV.bool true) := by kernel_rfl
set_option maxRecDepth 1000000 in
theorem dec_15 (r0 r2 r3 r4 r5 r6 r7 r8 r9 r10 r11 r12 r13 r14 r15 pc : Int) : callQ Try.prog [6, 19, 20, 59, 26, 62, 60, 82, 83] known1 [(6, [(21, .bool true)])] 300 6 [.agg [u r0, u 15, u r2, u r3, u r4, u r5, u r6, u r7, u r8, u r9, u r10, u r11, u r12, u r13, u r14, u r15, u pc]] (emp 0) (fun v _ => v = .bool true) = (Pure Try.prog 13 [] (.bool true) ∧ binL Try.prog .eql 42 false (.agg [i 15, u r2, u r3, u r4, u r5]) (.agg [i 15, u r2, u r3, u r4, u r5]) = some (.bool true) ∧ LV.bool true = LV.bool true) := by kernel_rfl
set_option maxRecDepth 1000000 in
theorem dec_16 (r0 r2 r3 r4 r5 r6 r7 r8 r9 r10 r11 r12 r13 r14 r15 pc : Int) : callQ Try.prog [6, 19, 20, 59, 26, 62, 60, 82, 83] known1 [(6, [(21, .bool true)])] 300 6 [.agg [u r0, u 16, u r2, u r3, u r4, u r5, u r6, u r7, u r8, u r9, u r10, u r11, u r12, u r13, u r14, u r15, u pc]] (emp 0) (fun v _ => v = .bool true) = (Pure Try.prog 13 [] (.bool true) ∧ binL Try.prog .eql 42 false (.agg [i 16, u r2, u r3, u r4, u r5]) (.agg [i 16, u r2, u r3, u r4, u r5]) = some (.bool true) ∧ LV.bool true = LV.bool true) := by kernel_rfl
set_option maxRecDepth 1000000 in
theorem dec_17 (r0 r2 r3 r4 r5 r6 r7 r8 r9 r10 r11 r12 r13 r14 r15 pc : Int) : callQ Try.prog [6, 19, 20, 59, 26, 62, 60, 82, 83] known1 [(6, [(21, .bool true)])] 300 6 [.agg [u r0, u 17, u r2, u r3, u r4, u r5, u r6, u r7, u r8, u r9, u r10, u r11, u r12, u r13, u r14, u r15, u pc]] (emp 0) (fun v _ => v = .bool true) = (Pure Try.prog 13 [] (.bool true) ∧ binL Try.prog .eql 42 false (.agg [i 17, u r2, u r3, u r4, u r5]) (.agg [i 17, u r2, u r3, u r4, u r5]) = some (.bool true) ∧ LV.bool true = LV.bool true) := by kernel_rfl
set_option maxRecDepth 1000000 in
theorem dec_18 (r0 r2 r3 r4 r5 r6 r7 r8 r9 r10 r11 r12 r13 r14 r15 pc : Int) : callQ Try.prog [6, 19, 20, 59, 26, 62, 60, 82, 83] known1 [(6, [(21, .bool true)])] 300 6 [.agg [u r0, u 18, u r2, u r3, u r4, u r5, u r6, u r7, u r8, u r9, u r10, u r11, u r12, u r13, u r14, u r15, u pc]] (emp 0) (fun v _ => v = .bool true) = (Pure Try.prog 13 [] (.bool true) ∧ binL Try.prog .eql 42 false (.agg [i 18, u r2, u r3, u r4, u r5]) (.agg [i 18, u r2, u r3, u r4, u r5]) = some (.bool true) ∧ LV.bool true = LV.bool true) := by kernel_rfl
set_option maxRecDepth 1000000 in
theorem dec_19 (r0 r2 r3 r4 r5 r6 r7 r8 r9 r10 r11 r12 r13 r14 r15 pc : Int) : callQ Try.prog [6, 19, 20, 59, 26, 62, 60, 82, 83] known1 [(6, [(21, .bool true)])] 300 6 [.agg [u r0, u 19, u r2, u r3, u r4, u r5, u r6, u r7, u r8, u r9, u r10, u r11, u r12, u r13, u r14, u r15, u pc]] (emp 0) (fun v _ => v = .bool true) = (Pure Try.prog 13 [] (.bool true) ∧ binL Try.prog .eql 42 false (.agg [i 19, u r2, u r3, u r4, u r5]) (.agg [i 19, u r2, u r3, u r4, u r5]) = some (.bool true) ∧ LV.bool true = LV.bool true) := by kernel_rfl
set_option maxRecDepth 1000000 in
theorem dec_20 (r0 r2 r3 r4 r5 r6 r7 r8 r9 r10 r11 r12 r13 r14 r15 pc : Int) : callQ Try.prog [6, 19, 20, 59, 26, 62, 60, 82, 83] known1 [(6, [(21, .bool true)])] 300 6 [.agg [u r0, u 20, u r2, u r3, u r4, u r5, u r6, u r7, u r8, u r9, u r10, u r11, u r12, u r13, u r14, u r15, u pc]] (emp 0) (fun v _ => v = .bool true) = (Pure Try.prog 13 [] (.bool true) ∧ binL Try.prog .eql 42 false (.agg [i 20, u r2, u r3, u r4, u r5]) (.agg [i 20, u r2, u r3, u r4, u r5]) = some (.bool true) ∧ LV.bool true = LV.bool true) := by kernel_rfl
set_option maxRecDepth 1000000 in
theorem dec_21 (r0 r2 r3 r4 r5 r6 r7 r8 r9 r10 r11 r12 r13 r14 r15 pc : Int) : callQ Try.prog [6, 19, 20, 59, 26, 62, 60, 82, 83] known1 [(6, [(21, .bool true)])] 300 6 [.agg [u r0, u 21, u r2, u r3, u r4, u r5, u r6, u r7, u r8, u r9, u r10, u r11, u r12, u r13, u r14, u r15, u pc]] (emp 0) (fun v _ => v = .bool true) = (Pure Try.prog 13 [] (.bool true) ∧ binL Try.prog .eql 42 false (.agg [i 21, u r2, u r3, u r4, u r5]) (.agg [i 21, u r2, u r3, u r4, u r5]) = some (.bool true) ∧ LV.bool true = LV.bool true) := by kernel_rfl
set_option maxRecDepth 1000000 in
theorem dec_22 (r0 r2 r3 r4 r5 r6 r7 r8 r9 r10 r11 r12 r13 r14 r15 pc : Int) : callQ Try.prog [6, 19, 20, 59, 26, 62, 60, 82, 83] known1 [(6, [(21, .bool true)])] 300 6 [.agg [u r0, u 22, u r2, u r3, u r4, u r5, u r6, u r7, u r8, u r9, u r10, u r11, u r12, u r13, u r14, u r15, u pc]] (emp 0) (fun v _ => v = .bool true) = (Pure Try.prog 13 [] (.bool true) ∧ binL Try.prog .eql 42 false (.agg [i 22, u r2, u r3, u r4, u r5]) (.agg [i 22, u r2, u r3, u r4, u r5]) = some (.bool true) ∧ LV.bool true = LV.bool true) := by kernel_rfl
set_option maxRecDepth 1000000 in
theorem dec_23 (r0 r2 r3 r4 r5 r6 r7 r8 r9 r10 r11 r12 r13 r14 r15 pc : Int) : callQ Try.prog [6, 19, 20, 59, 26, 62, 60, 82, 83] known1 [(6, [(21, .bool true)])] 300 6 [.agg [u r0, u 23, u r2, u r3, u r4, u r5, u r6, u r7, u r8, u r9, u r10, u r11, u r12, u r13, u r14, u r15, u pc]] (emp 0) (fun v _ => v = .bool true) = (Pure Try.prog 13 [] (.bool true) ∧ binL Try.prog .eql 42 false (.agg [i 23, u r2, u r3, u r4, u r5]) (.agg [i 23, u r2, u r3, u r4, u r5]) = some (.bool true) ∧ LV.bool true = LV.bool true) := by kernel_rfl
set_option maxRecDepth 1000000 in
theorem dec_24 (r0 r2 r3 r4 r5 r6 r7 r8 r9 r10 r11 r12 r13 r14 r15 pc : Int) : callQ Try.prog [6, 19, 20, 59, 26, 62, 60, 82, 83] known1 [(6, [(21, .bool true)])] 300 6 [.agg [u r0, u 24, u r2, u r3, u r4, u r5, u r6, u r7, u r8, u r9, u r10, u r11, u r12, u r13, u r14, u r15, u pc]] (emp 0) (fun v _ => v = .bool true) = (Pure Try.prog 13 [] (.bool true) ∧ binL Try.prog .eql 42 false (.agg [i 24, u r2, u r3, u r4, u r5]) (.agg [i 24, u r2, u r3, u r4, u r5]) = some (.bool true) ∧ LV.bool true = LV.bool true) := by kernel_rfl
set_option maxRecDepth 1000000 in
theorem dec_25 (r0 r2 r3 r4 r5 r6 r7 r8 r9 r10 r11 r12 r13 r14 r15 pc : Int) : callQ Try.prog [6, 19, 20, 59, 26, 62, 60, 82, 83] known1 [(6, [(21, .bool true)])] 300 6 [.agg [u r0, u 25, u r2, u r3, u r4, u r5, u r6, u r7, u r8, u r9, u r10, u r11, u r12, u r13, u r14, u r15, u pc]] (emp 0) (fun v _ => v = .bool true) = (Pure Try.prog 13 [] (.bool true) ∧ binL Try.prog .eql 42 false (.agg [i 25, u r2, u r3, u r4, u r5]) (.agg [i 25, u r2, u r3, u r4, u r5]) = some (.bool true) ∧ LV.bool true = LV.bool true) := by kernel_rfl
set_option maxRecDepth 1000000 in
theorem dec_26 (r0 r2 r3 r4 r5 r6 r7 r8 r9 r10 r11 r12 r13 r14 r15 pc : Int) : callQ Try.prog [6, 19, 20, 59, 26, 62, 60, 82, 83] known1 [(6, [(21, .bool true)])] 300 6 [.agg [u r0, u 26, u r2, u r3, u r4, u r5, u r6, u r7, u r8, u r9, u r10, u r11, u r12, u r13, u r14, u r15, u pc]] (emp 0) (fun v _ => v = .bool true) = (Pure Try.prog 13 [] (.bool true) ∧ binL Try.prog .eql 42 false (.agg [i 26, u r2, u r3, u r4, u r5]) (.agg [i 26, u r2, u r3, u r4, u r5]) = some (.bool true) ∧ LV.bool true = LV.bool true) := by kernel_rfl
set_option maxRecDepth 1000000 in
theorem dec_27 (r0 r2 r3 r4 r5 r6 r7 r8 r9 r10 r11 r12 r13 r14 r15 pc : Int) : callQ Try.prog [6, 19, 20, 59, 26, 62, 60, 82, 83] known1 [(6, [(21, .bool true)])] 300 6 [.agg [u r0, u 27, u r2, u r3, u r4, u r5, u r6, u r7, u r8, u r9, u r10, u r11, u r12, u r13, u r14, u r15, u pc]] (emp 0) (fun v _ => v = .bool true) = (Pure Try.prog 13 [] (.bool true) ∧ binL Try.prog .eql 42 false (.agg [i 27, u r2, u r3, u r4, u r5]) (.agg [i 27, u r2, u r3, u r4, u r5]) = some (.bool true) ∧ LV.bool true = LV.bool true) := by kernel_rfl
set_option maxRecDepth 1000000 in
theorem dec_28 (r0 r2 r3 r4 r5 r6 r7 r8 r9 r10 r11 r12 r13 r14 r15 pc : Int) : callQ Try.prog [6, 19, 20, 59, 26, 62, 60, 82, 83] known1 [(6, [(21, .bool true)])] 300 6 [.agg [u r0, u 28, u r2, u r3, u r4, u r5, u r6, u r7, u r8, u r9, u r10, u r11, u r12, u r13, u r14, u r15, u pc]] (emp 0) (fun v _ => v = .bool true) = (Pure Try.prog 13 [] (.bool true) ∧ binL Try.prog .eql 42 false (.agg [i 28, u r2, u r3, u r4, u r5]) (.agg [i 28, u r2, u r3, u r4, u r5]) = some (.bool true) ∧ LV.bool true = LV.bool true) := by kernel_rfl
set_option maxRecDepth 1000000 in
theorem dec_29 (r0 r2 r3 r4 r5 r6 r7 r8 r9 r10 r11 r12 r13 r14 r15 pc : Int) : callQ Try.prog [6, 19, 20, 59, 26, 62, 60, 82, 83] known1 [(6, [(21, .bool true)])] 300 6 [.agg [u r0, u 29, u r2, u r3, u r4, u r5, u r6, u r7, u r8, u r9, u r10, u r11, u r12, u r13, u r14, u r15, u pc]] (emp 0) (fun v _ => v = .bool true) = (Pure Try.prog 13 [] (.bool true) ∧ binL Try.prog .eql 42 false (.agg [i 29, u r2, u r3, u r4, u r5]) (.agg [i 29, u r2, u r3, u r4, u r5]) = some (.bool true) ∧ LV.bool true = LV.bool true) := by kernel_rfl
set_option maxRecDepth 1000000 in
theorem dec_30 (r0 r2 r3 r4 r5 r6 r7 r8 r9 r10 r11 r12 r13 r14 r15 pc : Int) : callQ Try.prog [6, 19, 20, 59, 26, 62, 60, 82, 83] known1 [(6, [(21, .bool true)])] 300 6 [.agg [u r0, u 30, u r2, u r3, u r4, u r5, u r6, u r7, u r8, u r9, u r10, u r11, u r12, u r13, u r14, u r15, u pc]] (emp 0) (fun v _ => v = .bool true) = (Pure Try.prog 13 [] (.bool true) ∧ binL Try.prog .eql 42 false (.agg [i 30, u r2, u r3, u r4, u r5]) (.agg [i 30, u r2, u r3, u r4, u r5]) = some (.bool true) ∧ LV.bool true = LV.bool true) := by kernel_rfl
set_option maxRecDepth 1000000 in
theorem dec_more (r1 r0 r2 r3 r4 r5 r6 r7 r8 r9 r10 r11 r12 r13 r14 r15 pc : Int) : callQ Try.prog [6, 19, 20, 59, 26, 62, 60, 82, 83] known1 [(19, [(13, .bool true)]), (59, [(7, .bool false), (12, .bool true)]), (20, [(22, .bool true)]), (26, [(6, .bool false), (11, .bool true)]), (6, [(21, .bool true)])] 300 6 [.agg [u r0, u r1, u r2, u r3, u r4, u r5, u r6, u r7, u r8, u r9, u r10, u r11, u r12, u r13, u r14, u r15, u pc]] (emp 0) (fun v _ => v = .bool true) =
    (binL Try.prog .leq 36 true (u r1) (u 2147483647) = some (.bool true) ∧ binL Try.prog .lss 3 true (i (IntKind.i64.wrap r1)) (i 1) = some (.bool false) ∧ binL Try.prog .gtr 3 false (i (IntKind.i64.wrap r1)) (i 30) = some (.bool true) ∧
      binL Try.prog .lss 36 true (u r1) (u 2147483648) = some (.bool true) ∧ binL Try.prog .lss 3 true (i (IntKind.i64.wrap r1)) (i 1) = some (.bool false) ∧ binL Try.prog .geq 3 false (i (IntKind.i64.wrap r1)) (i 31) = some (.bool true) ∧ Pure Try.prog 13 [] (.bool true) ∧ binL Try.prog .eql 42 false (.agg [i (IntKind.i64.wrap r1), u r2, u r3, u r4, u r5]) (.agg [i (IntKind.i64.wrap r1), u r2, u r3, u r4, u r5]) = some (.bool true) ∧ LV.bool true = LV.bool true) := by kernel_rfl
set_option maxRecDepth 1000000 in
theorem dec_none (r1 r0 r2 r3 r4 r5 r6 r7 r8 r9 r10 r11 r12 r13 r14 r15 pc : Int) : callQ Try.prog [6, 19, 20, 59, 26, 62, 60, 82, 83] known1 [(19, [(13, .bool false)]), (20, [(22, .bool false)]), (6, [(21, .bool true)])] 300 6 [.agg [u r0, u r1, u r2, u r3, u r4, u r5, u r6, u r7, u r8, u r9, u r10, u r11, u r12, u r13, u r14, u r15, u pc]] (emp 0) (fun v _ => v = .bool true) =
    (binL Try.prog .leq 36 true (u r1) (u 2147483647) = some (.bool false) ∧ binL Try.prog .lss 36 true (u r1) (u 2147483648) = some (.bool false) ∧ Pure Try.prog 13 [] (.bool true) ∧ binL Try.prog .eql 42 false (.agg [i 0, u r2, u r3, u r4, u r5]) (.agg [i 0, u r2, u r3, u r4, u r5]) = some (.bool true) ∧ LV.bool true = LV.bool true) := by kernel_rfl
theorem dec_pure (r0 r1 r2 r3 r4 r5 r6 r7 r8 r9 r10 r11 r12 r13 r14 r15 pc : Int) (h0 : 0 ≤ r1) : Pure Try.prog 6 [.agg [u r0, u r1, u r2, u r3, u r4, u r5, u r6, u r7, u r8, u r9, u r10, u r11, u r12, u r13, u r14, u r15, u pc]] (.bool true) := by
  by_cases hm : r1 ≤ 2147483647
  · by_cases hk : 30 < r1
    · have hw : IntKind.i64.wrap r1 = r1 := IntWalk.i64_in r1 ⟨by omega, by omega⟩
      exact pure_asked' Try.mixed fine6 rfl (dec_more r1 r0 r2 r3 r4 r5 r6 r7 r8 r9 r10 r11 r12 r13 r14 r15 pc) ⟨by rw [binL_leq_int, decide_eq_true hm], by rw [binL_lss_int, hw, decide_eq_false (by omega)], by rw [binL_gtr_int, hw, decide_eq_true hk], by rw [binL_lss_int, decide_eq_true (by omega)],
        by rw [binL_lss_int, hw, decide_eq_false (by omega)], by rw [binL_geq_int, hw, decide_eq_true (by omega)], awake_pure, trap_eq _ _ _ _ _, rfl⟩
    · have hc : r1 = 0 ∨ r1 = 1 ∨ r1 = 2 ∨ r1 = 3 ∨ r1 = 4 ∨ r1 = 5 ∨ r1 = 6 ∨ r1 = 7 ∨ r1 = 8 ∨ r1 = 9 ∨ r1 = 10 ∨ r1 = 11 ∨ r1 = 12 ∨ r1 = 13 ∨ r1 = 14 ∨ r1 = 15 ∨ r1 = 16 ∨ r1 = 17 ∨ r1 = 18 ∨ r1 = 19 ∨ r1 = 20 ∨ r1 = 21 ∨ r1 = 22 ∨ r1 = 23 ∨ r1 = 24 ∨ r1 = 25 ∨ r1 = 26 ∨ r1 = 27 ∨ r1 = 28 ∨ r1 = 29 ∨ r1 = 30 := by omega
      rcases hc with rfl | rfl | rfl | rfl | rfl | rfl | rfl | rfl | rfl | rfl | rfl | rfl | rfl | rfl | rfl | rfl | rfl | rfl | rfl | rfl | rfl | rfl | rfl | rfl | rfl | rfl | rfl | rfl | rfl | rfl | rfl
      · exact pure_asked' Try.mixed fine6 rfl (dec_0 r0 r2 r3 r4 r5 r6 r7 r8 r9 r10 r11 r12 r13 r14 r15 pc) ⟨awake_pure, trap_eq _ _ _ _ _, rfl⟩
      · exact pure_asked' Try.mixed fine6 rfl (dec_1 r0 r2 r3 r4 r5 r6 r7 r8 r9 r10 r11 r12 r13 r14 r15 pc) ⟨awake_pure, trap_eq _ _ _ _ _, rfl⟩
      · exact pure_asked' Try.mixed fine6 rfl (dec_2 r0 r2 r3 r4 r5 r6 r7 r8 r9 r10 r11 r12 r13 r14 r15 pc) ⟨awake_pure, trap_eq _ _ _ _ _, rfl⟩
      · exact pure_asked' Try.mixed fine6 rfl (dec_3 r0 r2 r3 r4 r5 r6 r7 r8 r9 r10 r11 r12 r13 r14 r15 pc) ⟨awake_pure, trap_eq _ _ _ _ _, rfl⟩
      · exact pure_asked' Try.mixed fine6 rfl (dec_4 r0 r2 r3 r4 r5 r6 r7 r8 r9 r10 r11 r12 r13 r14 r15 pc) ⟨awake_pure, trap_eq _ _ _ _ _, rfl⟩
      · exact pure_asked' Try.mixed fine6 rfl (dec_5 r0 r2 r3 r4 r5 r6 r7 r8 r9 r10 r11 r12 r13 r14 r15 pc) ⟨awake_pure, trap_eq _ _ _ _ _, rfl⟩
      · exact pure_asked' Try.mixed fine6 rfl (dec_6 r0 r2 r3 r4 r5 r6 r7 r8 r9 r10 r11 r12 r13 r14 r15 pc) ⟨awake_pure, trap_eq _ _ _ _ _, rfl⟩
      · exact pure_asked' Try.mixed fine6 rfl (dec_7 r0 r2 r3 r4 r5 r6 r7 r8 r9 r10 r11 r12 r13 r14 r15 pc) ⟨awake_pure, trap_eq _ _ _ _ _, rfl⟩
      · exact pure_asked' Try.mixed fine6 rfl (dec_8 r0 r2 r3 r4 r5 r6 r7 r8 r9 r10 r11 r12 r13 r14 r15 pc) ⟨awake_pure, trap_eq _ _ _ _ _, rfl⟩
      · exact pure_asked' Try.mixed fine6 rfl (dec_9 r0 r2 r3 r4 r5 r6 r7 r8 r9 r10 r11 r12 r13 r14 r15 pc) ⟨awake_pure, trap_eq _ _ _ _ _, rfl⟩
      · exact pure_asked' Try.mixed fine6 rfl (dec_10 r0 r2 r3 r4 r5 r6 r7 r8 r9 r10 r11 r12 r13 r14 r15 pc) ⟨awake_pure, trap_eq _ _ _ _ _, rfl⟩
      · exact pure_asked' Try.mixed fine6 rfl (dec_11 r0 r2 r3 r4 r5 r6 r7 r8 r9 r10 r11 r12 r13 r14 r15 pc) ⟨awake_pure, trap_eq _ _ _ _ _, rfl⟩
      · exact pure_asked' Try.mixed fine6 rfl (dec_12 r0 r2 r3 r4 r5 r6 r7 r8 r9 r10 r11 r12 r13 r14 r15 pc) ⟨awake_pure, trap_eq _ _ _ _ _, rfl⟩
      · exact pure_asked' Try.mixed fine6 rfl (dec_13 r0 r2 r3 r4 r5 r6 r7 r8 r9 r10 r11 r12 r13 r14 r15 pc) ⟨awake_pure, trap_eq _ _ _ _ _, rfl⟩
      · exact pure_asked' Try.mixed fine6 rfl (dec_14 r0 r2 r3 r4 r5 r6 r7 r8 r9 r10 r11 r12 r13 r14 r15 pc) ⟨awake_pure, trap_eq _ _ _ _ _, rfl⟩
      · exact pure_asked' Try.mixed fine6 rfl (dec_15 r0 r2 r3 r4 r5 r6 r7 r8 r9 r10 r11 r12 r13 r14 r15 pc) ⟨awake_pure, trap_eq _ _ _ _ _, rfl⟩
      · exact pure_asked' Try.mixed fine6 rfl (dec_16 r0 r2 r3 r4 r5 r6 r7 r8 r9 r10 r11 r12 r13 r14 r15 pc) ⟨awake_pure, trap_eq _ _ _ _ _, rfl⟩
      · exact pure_asked' Try.mixed fine6 rfl (dec_17 r0 r2 r3 r4 r5 r6 r7 r8 r9 r10 r11 r12 r13 r14 r15 pc) ⟨awake_pure, trap_eq _ _ _ _ _, rfl⟩
      · exact pure_asked' Try.mixed fine6 rfl (dec_18 r0 r2 r3 r4 r5 r6 r7 r8 r9 r10 r11 r12 r13 r14 r15 pc) ⟨awake_pure, trap_eq _ _ _ _ _, rfl⟩
      · exact pure_asked' Try.mixed fine6 rfl (dec_19 r0 r2 r3 r4 r5 r6 r7 r8 r9 r10 r11 r12 r13 r14 r15 pc) ⟨awake_pure, trap_eq _ _ _ _ _, rfl⟩
      · exact pure_asked' Try.mixed fine6 rfl (dec_20 r0 r2 r3 r4 r5 r6 r7 r8 r9 r10 r11 r12 r13 r14 r15 pc) ⟨awake_pure, trap_eq _ _ _ _ _, rfl⟩
      · exact pure_asked' Try.mixed fine6 rfl (dec_21 r0 r2 r3 r4 r5 r6 r7 r8 r9 r10 r11 r12 r13 r14 r15 pc) ⟨awake_pure, trap_eq _ _ _ _ _, rfl⟩
      · exact pure_asked' Try.mixed fine6 rfl (dec_22 r0 r2 r3 r4 r5 r6 r7 r8 r9 r10 r11 r12 r13 r14 r15 pc) ⟨awake_pure, trap_eq _ _ _ _ _, rfl⟩
      · exact pure_asked' Try.mixed fine6 rfl (dec_23 r0 r2 r3 r4 r5 r6 r7 r8 r9 r10 r11 r12 r13 r14 r15 pc) ⟨awake_pure, trap_eq _ _ _ _ _, rfl⟩
      · exact pure_asked' Try.mixed fine6 rfl (dec_24 r0 r2 r3 r4 r5 r6 r7 r8 r9 r10 r11 r12 r13 r14 r15 pc) ⟨awake_pure, trap_eq _ _ _ _ _, rfl⟩
      · exact pure_asked' Try.mixed fine6 rfl (dec_25 r0 r2 r3 r4 r5 r6 r7 r8 r9 r10 r11 r12 r13 r14 r15 pc) ⟨awake_pure, trap_eq _ _ _ _ _, rfl⟩
      · exact pure_asked' Try.mixed fine6 rfl (dec_26 r0 r2 r3 r4 r5 r6 r7 r8 r9 r10 r11 r12 r13 r14 r15 pc) ⟨awake_pure, trap_eq _ _ _ _ _, rfl⟩
      · exact pure_asked' Try.mixed fine6 rfl (dec_27 r0 r2 r3 r4 r5 r6 r7 r8 r9 r10 r11 r12 r13 r14 r15 pc) ⟨awake_pure, trap_eq _ _ _ _ _, rfl⟩
      · exact pure_asked' Try.mixed fine6 rfl (dec_28 r0 r2 r3 r4 r5 r6 r7 r8 r9 r10 r11 r12 r13 r14 r15 pc) ⟨awake_pure, trap_eq _ _ _ _ _, rfl⟩
      · exact pure_asked' Try.mixed fine6 rfl (dec_29 r0 r2 r3 r4 r5 r6 r7 r8 r9 r10 r11 r12 r13 r14 r15 pc) ⟨awake_pure, trap_eq _ _ _ _ _, rfl⟩
      · exact pure_asked' Try.mixed fine6 rfl (dec_30 r0 r2 r3 r4 r5 r6 r7 r8 r9 r10 r11 r12 r13 r14 r15 pc) ⟨awake_pure, trap_eq _ _ _ _ _, rfl⟩
  · exact pure_asked' Try.mixed fine6 rfl (dec_none r1 r0 r2 r3 r4 r5 r6 r7 r8 r9 r10 r11 r12 r13 r14 r15 pc) ⟨by rw [binL_leq_int, decide_eq_false hm], by rw [binL_lss_int, decide_eq_false (by omega)], awake_pure, trap_eq _ _ _ _ _, rfl⟩
theorem body6 (g : LHeap) (xs : List LV) (h : ShpArgs Try.prog g 5 [39] xs) : Ok Try.prog 6 xs g fun v _ => v = .bool true := by
  obtain ⟨yss, zs, rfl, hy, h⟩ := shp_struct Try.underlying39 h
  obtain rfl := shp_nil h
  obtain ⟨_, _, rfl, hr, hy1⟩ := alls_array u37 hy
  obtain ⟨pc, _, rfl, _, _, hy2⟩ := alls_int u36 hy1
  obtain rfl := alls_nil hy2
  obtain ⟨r0, _, rfl, a0, _, hr1⟩ := alls_int u36 hr
  obtain ⟨r1, _, rfl, a1, _, hr2⟩ := alls_int u36 hr1
  obtain ⟨r2, _, rfl, a2, _, hr3⟩ := alls_int u36 hr2
  obtain ⟨r3, _, rfl, a3, _, hr4⟩ := alls_int u36 hr3
  obtain ⟨r4, _, rfl, a4, _, hr5⟩ := alls_int u36 hr4
  obtain ⟨r5, _, rfl, a5, _, hr6⟩ := alls_int u36 hr5
  obtain ⟨r6, _, rfl, a6, _, hr7⟩ := alls_int u36 hr6
  obtain ⟨r7, _, rfl, a7, _, hr8⟩ := alls_int u36 hr7
  obtain ⟨r8, _, rfl, a8, _, hr9⟩ := alls_int u36 hr8
  obtain ⟨r9, _, rfl, a9, _, hr10⟩ := alls_int u36 hr9
  obtain ⟨r10, _, rfl, a10, _, hr11⟩ := alls_int u36 hr10
  obtain ⟨r11, _, rfl, a11, _, hr12⟩ := alls_int u36 hr11
  obtain ⟨r12, _, rfl, a12, _, hr13⟩ := alls_int u36 hr12
  obtain ⟨r13, _, rfl, a13, _, hr14⟩ := alls_int u36 hr13
  obtain ⟨r14, _, rfl, a14, _, hr15⟩ := alls_int u36 hr14
  obtain ⟨r15, _, rfl, a15, _, hrz⟩ := alls_int u36 hr15
  obtain rfl := alls_nil hrz
  exact (dec_pure r0 r1 r2 r3 r4 r5 r6 r7 r8 r9 r10 r11 r12 r13 r14 r15 pc a1).to rfl

set_option maxRecDepth 100000 in
theorem lifted (os : Os) (started : os.Started) (H : Type) (enc : TypeId × Value → H) :
    ReturnsInHanded {} Try.checked os 6 .any (Rows.callDecodesSpec.pre6 enc Try.prog Try.f6 Rows.callDecodesRow.domain false) (Rows.callDecodesSpec.post enc Try.prog Try.f6 false true false false) := by
  refine returnsInHanded_of_change (C := Try.checked) Try.own started (by kernel_rfl) Try.func6
    (ChangeSpec.witness6 (enc := enc) (C := Try.checked) false ⟨#[], #[.agg #[.int .u32 0, .int .u32 0, .int .u32 0, .int .u32 0, .int .u32 0, .int .u32 0, .int .u32 0, .int .u32 0, .int .u32 0, .int .u32 0, .int .u32 0, .int .u32 0, .int .u32 0, .int .u32 0, .int .u32 0, .int .u32 0, .int .u32 0]], []⟩ 8 (by kernel_rfl) (by kernel_rfl) (by kernel_rfl) (by kernel_rfl)) ?_
  intro W base args ds gs before hval0 hW hcnd _
  have hval : ∀ (j : Nat) t v, Try.f6.params[j]? = some t → args[j]? = some v → Value.okWide Try.prog W .any base t v := hval0
  have hW' := hW
  obtain ⟨p, q, hA0, hV, rfl, hfz, hnd⟩ := hW
  have hA : DataW.TrodAll enc Try.prog W 0 (fun _ => true) true Try.f6.params.toList args.toList ds p := hA0
  rw [Try.params6] at hA hval
  obtain ⟨v0, d0, rfl, rfl, _, _⟩ := trodAll_one hA
  obtain ⟨rfl, rfl⟩ := trodVars_none hV
  refine (law_calls (P := Try.prog) (n := 5) (ts := [39]) (by kernel_rfl) hA (fun j t v ht hv => hval j t v (by simpa using ht) hv) (fun g xs _ hs => body6 g xs hs)).mono fun e W' ⟨he, hb⟩ => ?_
  subst he
  exact ⟨_, rfl, post_true (P := Try.prog) (t := 4) Try.laidOut (by rw [Try.params6]; intro t ht; simp at ht; subst ht; exact ⟨by kernel_rfl, by rw [Try.types_size]; decide⟩) rfl hW' (by kernel_rfl) (by kernel_rfl) rfl hb⟩

theorem holds : Rows.CallDecodesSaid :=
  OpenClaim.holds_of_wide 6 Try.f6 rfl rfl rfl rfl rfl rfl rfl ⟨rfl, rfl, rfl, rfl, rfl⟩ rfl rfl rfl rfl rfl (by kernel_rfl) Try.func6 (by kernel_rfl)
    (of_decide_eq_true (by kernel_rfl)) (by unfold Func.isWrapper; first | (rw [if_pos (by decide +kernel)]; kernel_rfl) | (rw [if_neg (by decide +kernel)]; exact ⟨rfl, rfl⟩))
    (fun os started H enc _ => lifted os started H enc)

#print axioms holds
end Go.Proofs.Ytaofgdibpbpalaa
