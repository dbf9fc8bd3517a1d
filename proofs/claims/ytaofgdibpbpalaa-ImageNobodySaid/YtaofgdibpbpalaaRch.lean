/-
  image.reach and parapetref23.marks: what they tell, and which pages they mark.
-/
import Derived.Test.YtaofgdibpbpalaaRows
import Derived.Test.YtaofgdibpbpalaaLmZ
namespace Go.Proofs.Ytaofgdibpbpalaa
open Go.ChangeShapes Go.WideShapes Go.ChangeAt Go.RowKit Go.Lm
set_option linter.unusedSimpArgs false
variable {C : CallSem}
theorem Try.mixed : Try.prog.follows .mixedOrders = true := by kernel_rfl
abbrev i (n : Int) : LV := .int .i64 n
theorem u3 : Try.prog.underlying 3 = some (.int .i64) := by kernel_rfl
set_option maxRecDepth 1000000
/-! parapet/image.reach (41 slots) -/
noncomputable def n68_0 : Code := subC [] (bodyC Try.prog 68)
noncomputable def n68_1 : Code := subC [0] (bodyC Try.prog 68)
noncomputable def n68_2 : Code := subC [1] (bodyC Try.prog 68)
noncomputable def n68_3 : Code := subC [1, 0] (bodyC Try.prog 68)
noncomputable def n68_4 : Code := subC [1, 0, 0] (bodyC Try.prog 68)
noncomputable def n68_5 : Code := subC [1, 0, 1] (bodyC Try.prog 68)
noncomputable def n68_6 : Code := subC [1, 0, 1, 0] (bodyC Try.prog 68)
noncomputable def n68_7 : Code := subC [1, 0, 1, 0, 0] (bodyC Try.prog 68)
noncomputable def n68_8 : Code := subC [1, 0, 1, 0, 1] (bodyC Try.prog 68)
noncomputable def n68_9 : Code := subC [1, 0, 1, 1] (bodyC Try.prog 68)
noncomputable def n68_10 : Code := subC [1, 1] (bodyC Try.prog 68)
noncomputable def n68_11 : Code := subC [1, 1, 0] (bodyC Try.prog 68)
noncomputable def n68_12 : Code := subC [1, 1, 0, 0] (bodyC Try.prog 68)
noncomputable def n68_13 : Code := subC [1, 1, 0, 1] (bodyC Try.prog 68)
noncomputable def n68_14 : Code := subC [1, 1, 0, 1, 0] (bodyC Try.prog 68)
noncomputable def n68_15 : Code := subC [1, 1, 0, 1, 0, 0] (bodyC Try.prog 68)
noncomputable def n68_16 : Code := subC [1, 1, 0, 1, 0, 0, 0] (bodyC Try.prog 68)
noncomputable def n68_17 : Code := subC [1, 1, 0, 1, 0, 0, 0, 0] (bodyC Try.prog 68)
noncomputable def n68_18 : Code := subC [1, 1, 0, 1, 0, 0, 0, 1] (bodyC Try.prog 68)
noncomputable def n68_19 : Code := subC [1, 1, 0, 1, 0, 0, 0, 1, 0] (bodyC Try.prog 68)
noncomputable def n68_20 : Code := subC [1, 1, 0, 1, 0, 0, 0, 1, 1] (bodyC Try.prog 68)
noncomputable def n68_21 : Code := subC [1, 1, 0, 1, 0, 0, 1] (bodyC Try.prog 68)
noncomputable def n68_22 : Code := subC [1, 1, 0, 1, 0, 0, 1, 0] (bodyC Try.prog 68)
noncomputable def n68_23 : Code := subC [1, 1, 0, 1, 0, 0, 1, 0, 0] (bodyC Try.prog 68)
noncomputable def n68_24 : Code := subC [1, 1, 0, 1, 0, 0, 1, 0, 0, 0] (bodyC Try.prog 68)
noncomputable def n68_25 : Code := subC [1, 1, 0, 1, 0, 0, 1, 0, 0, 0, 0] (bodyC Try.prog 68)
noncomputable def n68_26 : Code := subC [1, 1, 0, 1, 0, 0, 1, 0, 0, 0, 1] (bodyC Try.prog 68)
noncomputable def n68_27 : Code := subC [1, 1, 0, 1, 0, 0, 1, 0, 0, 0, 1, 0] (bodyC Try.prog 68)
noncomputable def n68_28 : Code := subC [1, 1, 0, 1, 0, 0, 1, 0, 0, 0, 1, 0, 0] (bodyC Try.prog 68)
noncomputable def n68_29 : Code := subC [1, 1, 0, 1, 0, 0, 1, 0, 0, 0, 1, 0, 1] (bodyC Try.prog 68)
noncomputable def n68_30 : Code := subC [1, 1, 0, 1, 0, 0, 1, 0, 0, 0, 1, 1] (bodyC Try.prog 68)
noncomputable def n68_31 : Code := subC [1, 1, 0, 1, 0, 0, 1, 0, 0, 1] (bodyC Try.prog 68)
noncomputable def n68_32 : Code := subC [1, 1, 0, 1, 0, 0, 1, 1] (bodyC Try.prog 68)
noncomputable def n68_33 : Code := subC [1, 1, 1] (bodyC Try.prog 68)
noncomputable def n68_34 : Code := subC [1, 1, 1, 0] (bodyC Try.prog 68)
noncomputable def n68_35 : Code := subC [1, 1, 1, 1] (bodyC Try.prog 68)
theorem n68_0_eq : n68_0 = .seq n68_1 n68_2 := nr (by kernel_rfl)
theorem n68_1_eq (K : LEx → LSt → Prop) (tm : Nat → LV) (g : LHeap) : code2 Try.prog C n68_1 ⟨tm, g⟩ K = (
    K .normal ⟨(putL tm (some 6) (.bool false)), g⟩) := nr (by kernel_rfl)
theorem n68_2_eq : n68_2 = .seq n68_3 n68_10 := nr (by kernel_rfl)
theorem n68_3_eq : n68_3 = .seq n68_4 n68_5 := nr (by kernel_rfl)
theorem n68_4_eq (K : LEx → LSt → Prop) (tm : Nat → LV) (g : LHeap) : code2 Try.prog C n68_4 ⟨tm, g⟩ K = (
    vK (binL Try.prog .lss 3 true (tm 1) (.int .i64 (0))) fun t9 =>
    gd t9 false g (fun K => K (tm 2) g) fun t11 g =>
    gd t9 false g (fun K => vK (binL Try.prog .lss 3 true t11 (.int .i64 (1))) fun v => K v g) fun t12 g =>
    vK (pickL t9 (.bool true) t12) fun t13 =>
    gd t13 false g (fun K => K (tm 2) g) fun t15 g =>
    gd t13 false g (fun K => vK (binL Try.prog .gtr 3 true t15 (.int .i64 (128))) fun v => K v g) fun t16 g =>
    vK (pickL t13 (.bool true) t16) fun t17 =>
    gd t17 false g (fun K => K (tm 1) g) fun t19 g =>
    gd t17 false g (fun K => K (tm 2) g) fun t20 g =>
    gd t17 false g (fun K => vK (binL Try.prog .sub 3 true (.int .i64 (128)) t20) fun v => K v g) fun t21 g =>
    gd t17 false g (fun K => vK (binL Try.prog .gtr 3 false t19 t21) fun v => K v g) fun t22 g =>
    vK (pickL t17 (.bool true) t22) fun t23 =>
    K .normal ⟨(putL (putL (putL (putL (putL (putL (putL (putL (putL (putL (putL (putL (putL (putL (putL (putL tm (some 8) (tm 1)) (some 9) t9) (some 10) t9) (some 11) t11) (some 12) t12) (some 13) t13) (some 14) t13) (some 15) t15) (some 16) t16) (some 17) t17) (some 18) t17) (some 19) t19) (some 20) t20) (some 21) t21) (some 22) t22) (some 23) t23), g⟩) := nr (by kernel_rfl)
theorem n68_5_eq (K : LEx → LSt → Prop) (tm : Nat → LV) (g : LHeap) : code2 Try.prog C n68_5 ⟨tm, g⟩ K = ifB (tm 23) (code2 Try.prog C n68_6 ⟨tm, g⟩ K) (code2 Try.prog C n68_9 ⟨tm, g⟩ K) := nr (by kernel_rfl)
theorem n68_6_eq : n68_6 = .seq n68_7 n68_8 := nr (by kernel_rfl)
theorem n68_7_eq (K : LEx → LSt → Prop) (tm : Nat → LV) (g : LHeap) : code2 Try.prog C n68_7 ⟨tm, g⟩ K = (
    K .normal ⟨(putL tm (some 6) (.bool false)), g⟩) := nr (by kernel_rfl)
theorem n68_8_eq : n68_8 = .ret := nr (by kernel_rfl)
theorem n68_9_eq : n68_9 = .skip := nr (by kernel_rfl)
theorem n68_10_eq : n68_10 = .seq n68_11 n68_33 := nr (by kernel_rfl)
theorem n68_11_eq : n68_11 = .seq n68_12 n68_13 := nr (by kernel_rfl)
theorem n68_12_eq (K : LEx → LSt → Prop) (tm : Nat → LV) (g : LHeap) : code2 Try.prog C n68_12 ⟨tm, g⟩ K = (
    K .normal ⟨(putL (putL tm (some 24) (tm 1)) (some 7) (tm 1)), g⟩) := nr (by kernel_rfl)
theorem n68_13_eq : n68_13 = .block 0 n68_14 := nr (by kernel_rfl)
theorem n68_14_eq : n68_14 = .loop n68_15 := nr (by kernel_rfl)
theorem n68_15_eq : n68_15 = .seq n68_16 n68_21 := nr (by kernel_rfl)
theorem n68_16_eq : n68_16 = .seq n68_17 n68_18 := nr (by kernel_rfl)
theorem n68_17_eq (K : LEx → LSt → Prop) (tm : Nat → LV) (g : LHeap) : code2 Try.prog C n68_17 ⟨tm, g⟩ K = (
    vK (binL Try.prog .add 3 false (tm 1) (tm 2)) fun t28 =>
    vK (binL Try.prog .lss 3 false (tm 7) t28) fun t29 =>
    K .normal ⟨(putL (putL (putL (putL (putL tm (some 25) (tm 7)) (some 26) (tm 1)) (some 27) (tm 2)) (some 28) t28) (some 29) t29), g⟩) := nr (by kernel_rfl)
theorem n68_18_eq (K : LEx → LSt → Prop) (tm : Nat → LV) (g : LHeap) : code2 Try.prog C n68_18 ⟨tm, g⟩ K = ifB (tm 29) (code2 Try.prog C n68_19 ⟨tm, g⟩ K) (code2 Try.prog C n68_20 ⟨tm, g⟩ K) := nr (by kernel_rfl)
theorem n68_19_eq : n68_19 = .skip := nr (by kernel_rfl)
theorem n68_20_eq : n68_20 = .exit 0 := nr (by kernel_rfl)
theorem n68_21_eq : n68_21 = .seq n68_22 n68_32 := nr (by kernel_rfl)
theorem n68_22_eq : n68_22 = .block 1 n68_23 := nr (by kernel_rfl)
theorem n68_23_eq : n68_23 = .seq n68_24 n68_31 := nr (by kernel_rfl)
theorem n68_24_eq : n68_24 = .seq n68_25 n68_26 := nr (by kernel_rfl)
theorem n68_25_eq (K : LEx → LSt → Prop) (tm : Nat → LV) (g : LHeap) : code2 Try.prog C n68_25 ⟨tm, g⟩ K = (
    vK (nilCheckL (tm 0)) fun t34 =>
    vK (ixAddrL (some 128) 1 t34 (tm 7)) fun t35 =>
    vK (loadV none t35 g) fun t36 =>
    K .normal ⟨(putL (putL (putL (putL (putL tm (some 32) (tm 0)) (some 33) (tm 7)) (some 34) t34) (some 35) t35) (some 36) t36), g⟩) := nr (by kernel_rfl)
theorem n68_26_eq (K : LEx → LSt → Prop) (tm : Nat → LV) (g : LHeap) : code2 Try.prog C n68_26 ⟨tm, g⟩ K = ifB (tm 36) (code2 Try.prog C n68_27 ⟨tm, g⟩ K) (code2 Try.prog C n68_30 ⟨tm, g⟩ K) := nr (by kernel_rfl)
theorem n68_27_eq : n68_27 = .seq n68_28 n68_29 := nr (by kernel_rfl)
theorem n68_28_eq (K : LEx → LSt → Prop) (tm : Nat → LV) (g : LHeap) : code2 Try.prog C n68_28 ⟨tm, g⟩ K = (
    K .normal ⟨(putL tm (some 6) (.bool false)), g⟩) := nr (by kernel_rfl)
theorem n68_29_eq : n68_29 = .ret := nr (by kernel_rfl)
theorem n68_30_eq : n68_30 = .skip := nr (by kernel_rfl)
theorem n68_31_eq (K : LEx → LSt → Prop) (tm : Nat → LV) (g : LHeap) : code2 Try.prog C n68_31 ⟨tm, g⟩ K = (
    vK (nilCheckL (tm 0)) fun t39 =>
    vK (ixAddrL (some 128) 1 t39 (tm 7)) fun t40 =>
    gK (storeV 1 t40 (.bool true) g) fun g =>
    K .normal ⟨(putL (putL (putL (putL tm (some 37) (tm 0)) (some 38) (tm 7)) (some 39) t39) (some 40) t40), g⟩) := nr (by kernel_rfl)
theorem n68_32_eq (K : LEx → LSt → Prop) (tm : Nat → LV) (g : LHeap) : code2 Try.prog C n68_32 ⟨tm, g⟩ K = (
    vK (binL Try.prog .add 3 true (tm 7) (.int .i64 (1))) fun t31 =>
    K .normal ⟨(putL (putL (putL tm (some 30) (tm 7)) (some 31) t31) (some 7) t31), g⟩) := nr (by kernel_rfl)
theorem n68_33_eq : n68_33 = .seq n68_34 n68_35 := nr (by kernel_rfl)
theorem n68_34_eq (K : LEx → LSt → Prop) (tm : Nat → LV) (g : LHeap) : code2 Try.prog C n68_34 ⟨tm, g⟩ K = (
    K .normal ⟨(putL tm (some 6) (.bool true)), g⟩) := nr (by kernel_rfl)
theorem n68_35_eq : n68_35 = .ret := nr (by kernel_rfl)

/-! parapet/parapetref23.marks (39 slots) -/
noncomputable def n70_0 : Code := subC [] (bodyC Try.prog 70)
noncomputable def n70_1 : Code := subC [0] (bodyC Try.prog 70)
noncomputable def n70_2 : Code := subC [1] (bodyC Try.prog 70)
noncomputable def n70_3 : Code := subC [1, 0] (bodyC Try.prog 70)
noncomputable def n70_4 : Code := subC [1, 0, 0] (bodyC Try.prog 70)
noncomputable def n70_5 : Code := subC [1, 0, 1] (bodyC Try.prog 70)
noncomputable def n70_6 : Code := subC [1, 0, 1, 0] (bodyC Try.prog 70)
noncomputable def n70_7 : Code := subC [1, 0, 1, 0, 0] (bodyC Try.prog 70)
noncomputable def n70_8 : Code := subC [1, 0, 1, 0, 1] (bodyC Try.prog 70)
noncomputable def n70_9 : Code := subC [1, 0, 1, 1] (bodyC Try.prog 70)
noncomputable def n70_10 : Code := subC [1, 1] (bodyC Try.prog 70)
noncomputable def n70_11 : Code := subC [1, 1, 0] (bodyC Try.prog 70)
noncomputable def n70_12 : Code := subC [1, 1, 0, 0] (bodyC Try.prog 70)
noncomputable def n70_13 : Code := subC [1, 1, 0, 1] (bodyC Try.prog 70)
noncomputable def n70_14 : Code := subC [1, 1, 0, 1, 0] (bodyC Try.prog 70)
noncomputable def n70_15 : Code := subC [1, 1, 0, 1, 0, 0] (bodyC Try.prog 70)
noncomputable def n70_16 : Code := subC [1, 1, 0, 1, 0, 0, 0] (bodyC Try.prog 70)
noncomputable def n70_17 : Code := subC [1, 1, 0, 1, 0, 0, 0, 0] (bodyC Try.prog 70)
noncomputable def n70_18 : Code := subC [1, 1, 0, 1, 0, 0, 0, 1] (bodyC Try.prog 70)
noncomputable def n70_19 : Code := subC [1, 1, 0, 1, 0, 0, 0, 1, 0] (bodyC Try.prog 70)
noncomputable def n70_20 : Code := subC [1, 1, 0, 1, 0, 0, 0, 1, 1] (bodyC Try.prog 70)
noncomputable def n70_21 : Code := subC [1, 1, 0, 1, 0, 0, 1] (bodyC Try.prog 70)
noncomputable def n70_22 : Code := subC [1, 1, 0, 1, 0, 0, 1, 0] (bodyC Try.prog 70)
noncomputable def n70_23 : Code := subC [1, 1, 0, 1, 0, 0, 1, 0, 0] (bodyC Try.prog 70)
noncomputable def n70_24 : Code := subC [1, 1, 0, 1, 0, 0, 1, 0, 0, 0] (bodyC Try.prog 70)
noncomputable def n70_25 : Code := subC [1, 1, 0, 1, 0, 0, 1, 0, 0, 0, 0] (bodyC Try.prog 70)
noncomputable def n70_26 : Code := subC [1, 1, 0, 1, 0, 0, 1, 0, 0, 0, 1] (bodyC Try.prog 70)
noncomputable def n70_27 : Code := subC [1, 1, 0, 1, 0, 0, 1, 0, 0, 0, 1, 0] (bodyC Try.prog 70)
noncomputable def n70_28 : Code := subC [1, 1, 0, 1, 0, 0, 1, 0, 0, 0, 1, 0, 0] (bodyC Try.prog 70)
noncomputable def n70_29 : Code := subC [1, 1, 0, 1, 0, 0, 1, 0, 0, 0, 1, 0, 1] (bodyC Try.prog 70)
noncomputable def n70_30 : Code := subC [1, 1, 0, 1, 0, 0, 1, 0, 0, 0, 1, 1] (bodyC Try.prog 70)
noncomputable def n70_31 : Code := subC [1, 1, 0, 1, 0, 0, 1, 0, 0, 1] (bodyC Try.prog 70)
noncomputable def n70_32 : Code := subC [1, 1, 0, 1, 0, 0, 1, 1] (bodyC Try.prog 70)
noncomputable def n70_33 : Code := subC [1, 1, 1] (bodyC Try.prog 70)
noncomputable def n70_34 : Code := subC [1, 1, 1, 0] (bodyC Try.prog 70)
noncomputable def n70_35 : Code := subC [1, 1, 1, 1] (bodyC Try.prog 70)
theorem n70_0_eq : n70_0 = .seq n70_1 n70_2 := nr (by kernel_rfl)
theorem n70_1_eq (K : LEx → LSt → Prop) (tm : Nat → LV) (g : LHeap) : code2 Try.prog C n70_1 ⟨tm, g⟩ K = (
    K .normal ⟨(putL tm (some 6) (.bool false)), g⟩) := nr (by kernel_rfl)
theorem n70_2_eq : n70_2 = .seq n70_3 n70_10 := nr (by kernel_rfl)
theorem n70_3_eq : n70_3 = .seq n70_4 n70_5 := nr (by kernel_rfl)
theorem n70_4_eq (K : LEx → LSt → Prop) (tm : Nat → LV) (g : LHeap) : code2 Try.prog C n70_4 ⟨tm, g⟩ K = (
    vK (binL Try.prog .lss 3 true (tm 1) (.int .i64 (0))) fun t9 =>
    gd t9 false g (fun K => K (tm 2) g) fun t11 g =>
    gd t9 false g (fun K => vK (binL Try.prog .lss 3 true t11 (.int .i64 (1))) fun v => K v g) fun t12 g =>
    vK (pickL t9 (.bool true) t12) fun t13 =>
    gd t13 false g (fun K => K (tm 2) g) fun t15 g =>
    gd t13 false g (fun K => vK (binL Try.prog .gtr 3 true t15 (.int .i64 (128))) fun v => K v g) fun t16 g =>
    vK (pickL t13 (.bool true) t16) fun t17 =>
    gd t17 false g (fun K => K (tm 1) g) fun t19 g =>
    gd t17 false g (fun K => K (tm 2) g) fun t20 g =>
    gd t17 false g (fun K => vK (binL Try.prog .sub 3 true (.int .i64 (128)) t20) fun v => K v g) fun t21 g =>
    gd t17 false g (fun K => vK (binL Try.prog .gtr 3 false t19 t21) fun v => K v g) fun t22 g =>
    vK (pickL t17 (.bool true) t22) fun t23 =>
    K .normal ⟨(putL (putL (putL (putL (putL (putL (putL (putL (putL (putL (putL (putL (putL (putL (putL (putL tm (some 8) (tm 1)) (some 9) t9) (some 10) t9) (some 11) t11) (some 12) t12) (some 13) t13) (some 14) t13) (some 15) t15) (some 16) t16) (some 17) t17) (some 18) t17) (some 19) t19) (some 20) t20) (some 21) t21) (some 22) t22) (some 23) t23), g⟩) := nr (by kernel_rfl)
theorem n70_5_eq (K : LEx → LSt → Prop) (tm : Nat → LV) (g : LHeap) : code2 Try.prog C n70_5 ⟨tm, g⟩ K = ifB (tm 23) (code2 Try.prog C n70_6 ⟨tm, g⟩ K) (code2 Try.prog C n70_9 ⟨tm, g⟩ K) := nr (by kernel_rfl)
theorem n70_6_eq : n70_6 = .seq n70_7 n70_8 := nr (by kernel_rfl)
theorem n70_7_eq (K : LEx → LSt → Prop) (tm : Nat → LV) (g : LHeap) : code2 Try.prog C n70_7 ⟨tm, g⟩ K = (
    K .normal ⟨(putL tm (some 6) (.bool false)), g⟩) := nr (by kernel_rfl)
theorem n70_8_eq : n70_8 = .ret := nr (by kernel_rfl)
theorem n70_9_eq : n70_9 = .skip := nr (by kernel_rfl)
theorem n70_10_eq : n70_10 = .seq n70_11 n70_33 := nr (by kernel_rfl)
theorem n70_11_eq : n70_11 = .seq n70_12 n70_13 := nr (by kernel_rfl)
theorem n70_12_eq (K : LEx → LSt → Prop) (tm : Nat → LV) (g : LHeap) : code2 Try.prog C n70_12 ⟨tm, g⟩ K = (
    K .normal ⟨(putL (putL tm (some 24) (tm 1)) (some 7) (tm 1)), g⟩) := nr (by kernel_rfl)
theorem n70_13_eq : n70_13 = .block 0 n70_14 := nr (by kernel_rfl)
theorem n70_14_eq : n70_14 = .loop n70_15 := nr (by kernel_rfl)
theorem n70_15_eq : n70_15 = .seq n70_16 n70_21 := nr (by kernel_rfl)
theorem n70_16_eq : n70_16 = .seq n70_17 n70_18 := nr (by kernel_rfl)
theorem n70_17_eq (K : LEx → LSt → Prop) (tm : Nat → LV) (g : LHeap) : code2 Try.prog C n70_17 ⟨tm, g⟩ K = (
    vK (binL Try.prog .add 3 false (tm 1) (tm 2)) fun t28 =>
    vK (binL Try.prog .lss 3 false (tm 7) t28) fun t29 =>
    K .normal ⟨(putL (putL (putL (putL (putL tm (some 25) (tm 7)) (some 26) (tm 1)) (some 27) (tm 2)) (some 28) t28) (some 29) t29), g⟩) := nr (by kernel_rfl)
theorem n70_18_eq (K : LEx → LSt → Prop) (tm : Nat → LV) (g : LHeap) : code2 Try.prog C n70_18 ⟨tm, g⟩ K = ifB (tm 29) (code2 Try.prog C n70_19 ⟨tm, g⟩ K) (code2 Try.prog C n70_20 ⟨tm, g⟩ K) := nr (by kernel_rfl)
theorem n70_19_eq : n70_19 = .skip := nr (by kernel_rfl)
theorem n70_20_eq : n70_20 = .exit 0 := nr (by kernel_rfl)
theorem n70_21_eq : n70_21 = .seq n70_22 n70_32 := nr (by kernel_rfl)
theorem n70_22_eq : n70_22 = .block 1 n70_23 := nr (by kernel_rfl)
theorem n70_23_eq : n70_23 = .seq n70_24 n70_31 := nr (by kernel_rfl)
theorem n70_24_eq : n70_24 = .seq n70_25 n70_26 := nr (by kernel_rfl)
theorem n70_25_eq (K : LEx → LSt → Prop) (tm : Nat → LV) (g : LHeap) : code2 Try.prog C n70_25 ⟨tm, g⟩ K = (
    vK (ixAddrL none 1 (tm 0) (tm 7)) fun t34 =>
    vK (loadV none t34 g) fun t35 =>
    K .normal ⟨(putL (putL (putL (putL tm (some 32) (tm 0)) (some 33) (tm 7)) (some 34) t34) (some 35) t35), g⟩) := nr (by kernel_rfl)
theorem n70_26_eq (K : LEx → LSt → Prop) (tm : Nat → LV) (g : LHeap) : code2 Try.prog C n70_26 ⟨tm, g⟩ K = ifB (tm 35) (code2 Try.prog C n70_27 ⟨tm, g⟩ K) (code2 Try.prog C n70_30 ⟨tm, g⟩ K) := nr (by kernel_rfl)
theorem n70_27_eq : n70_27 = .seq n70_28 n70_29 := nr (by kernel_rfl)
theorem n70_28_eq (K : LEx → LSt → Prop) (tm : Nat → LV) (g : LHeap) : code2 Try.prog C n70_28 ⟨tm, g⟩ K = (
    K .normal ⟨(putL tm (some 6) (.bool false)), g⟩) := nr (by kernel_rfl)
theorem n70_29_eq : n70_29 = .ret := nr (by kernel_rfl)
theorem n70_30_eq : n70_30 = .skip := nr (by kernel_rfl)
theorem n70_31_eq (K : LEx → LSt → Prop) (tm : Nat → LV) (g : LHeap) : code2 Try.prog C n70_31 ⟨tm, g⟩ K = (
    vK (ixAddrL none 1 (tm 0) (tm 7)) fun t38 =>
    gK (storeV 1 t38 (.bool true) g) fun g =>
    K .normal ⟨(putL (putL (putL tm (some 36) (tm 0)) (some 37) (tm 7)) (some 38) t38), g⟩) := nr (by kernel_rfl)
theorem n70_32_eq (K : LEx → LSt → Prop) (tm : Nat → LV) (g : LHeap) : code2 Try.prog C n70_32 ⟨tm, g⟩ K = (
    vK (binL Try.prog .add 3 true (tm 7) (.int .i64 (1))) fun t31 =>
    K .normal ⟨(putL (putL (putL tm (some 30) (tm 7)) (some 31) t31) (some 7) t31), g⟩) := nr (by kernel_rfl)
theorem n70_33_eq : n70_33 = .seq n70_34 n70_35 := nr (by kernel_rfl)
theorem n70_34_eq (K : LEx → LSt → Prop) (tm : Nat → LV) (g : LHeap) : code2 Try.prog C n70_34 ⟨tm, g⟩ K = (
    K .normal ⟨(putL tm (some 6) (.bool true)), g⟩) := nr (by kernel_rfl)
theorem n70_35_eq : n70_35 = .ret := nr (by kernel_rfl)

set_option maxRecDepth 5000
def reachL : Nat → Nat → List Bool → Bool × List Bool
  | 0, _, bs => (true, bs)
  | n + 1, p, bs => if bs.getD p false then (false, bs) else reachL n (p + 1) (bs.set p true)
def reachB (f c : Int) (bs : List Bool) : Bool × List Bool := if f < 0 ∨ c < 1 ∨ 128 < c ∨ 128 - c < f then (false, bs) else reachL c.toNat f.toNat bs
theorem splice_one (bs : List Bool) (p : Nat) (h : p < bs.length) : splice (bs.map LV.bool) p [.bool true] = (bs.set p true).map LV.bool := by
  apply List.ext_getElem?
  intro j
  rw [splice_get (by simp; omega)]
  simp only [List.length_singleton, List.getElem?_map, List.getElem?_set]
  by_cases hj : p = j
  · subst hj; simp [h]
  · rw [if_neg (by omega), if_neg hj]
theorem ix_ptr (a p n : Nat) (h : p < n) : ixAddrL (some n) 1 (.ptr a 0) (i p) = some (.ptr a p) := by
  simp only [ixAddrL]
  rw [if_pos ⟨by omega, by omega⟩]
  simp
theorem ix_slice (a p n : Nat) (c : Cap) (h : p < n) : ixAddrL none 1 (.slice a 0 n c) (i p) = some (.ptr a p) := by
  simp only [ixAddrL]
  rw [if_pos ⟨by omega, by omega⟩]
  simp
theorem load_bool {g : LHeap} {a p : Nat} {own : Own} {bs : List Bool} (hg : g.get a = some (.cells (bs.map .bool) own)) (h : p < bs.length) : loadV none (.ptr a p) g = some (.bool (bs.getD p false)) := by
  simp [loadV, hg, List.getD, List.getElem?_eq_getElem h]
theorem store_bool {g : LHeap} {a p : Nat} {own : Own} {bs : List Bool} (hg : g.get a = some (.cells (bs.map .bool) own)) (ho : own ≠ .ro) (h : p < bs.length) : storeV 1 (.ptr a p) (.bool true) g = some (g.set a (.cells ((bs.set p true).map .bool) own)) := by
  have : (LV.bool true).cells = [.bool true] := rfl
  simp only [storeV, this, List.length_singleton, if_true, storeCellsL, hg]
  rw [if_pos ⟨ho, by simp; omega, rfl⟩, splice_one bs p h]

set_option maxRecDepth 1000000 in
theorem fine68 : fineF Try.prog 68 = true := by kernel_rfl
theorem res68 (tm : Nat → LV) (g : LHeap) : resL Try.prog tm g Try.f68.results.toList = some [tm 6] := by kernel_rfl
theorem len68 : 3 ≤ Try.f68.ntmps := Nat.le_of_ble_eq_true (by kernel_rfl)
theorem reach_ok {g : LHeap} {a : Nat} {own : Own} {bs : List Bool} (hl : bs.length = 128) (hg : g.get a = some (.cells (bs.map .bool) own)) (ho : own ≠ .ro) (f c : Int) :
    Ok Try.prog 68 [.ptr a 0, i f, i c] g fun v g' => v = .bool (reachB f c bs).1 ∧ g' = g.set a (.cells ((reachB f c bs).2.map .bool) own) := by
  refine ok_fn Try.mixed Try.func68 fine68 len68 ?_
  rw [show bodyC Try.prog 68 = n68_0 from by kernel_rfl]
  have s0 : startL [.ptr a 0, i f, i c] 0 = .ptr a 0 := rfl
  have s1 : startL [.ptr a 0, i f, i c] 1 = i f := rfl
  have s2 : startL [.ptr a 0, i f, i c] 2 = i c := rfl
  generalize startL [.ptr a 0, i f, i c] = tm at s0 s1 s2
  have hend : ∀ (tm : Nat → LV) (g' : LHeap) (b : Bool) (e : LEx) (K : LV → LHeap → Prop), e = .ret → tm 6 = .bool b → K (.bool b) g' → endL Try.prog Try.f68 K e ⟨tm, g'⟩ := by
    intro tm g' b e K he h hk
    subst he
    simp only [endL, res68, h]
    exact hk
  by_cases h1 : f < 0
  · have hr : reachB f c bs = (false, bs) := if_pos (.inl h1)
    rw [n68_0_eq, c2_seq]
    rw [n68_1_eq]
    skip
    repeat first | rw [then_normal] | rw [then_ret] | rw [then_exit] | rw [exit_normal] | rw [exit_ret] | rw [round_normal] | rw [round_exit] | rw [round_ret] | (rw [exit_exit]; simp only [Nat.reduceEqDiff, reduceIte])
    rw [n68_2_eq, c2_seq]
    rw [n68_3_eq, c2_seq]
    rw [n68_4_eq]
    repeat first | refine vK_i (by (simp only [zz1, zz2, zz3, zz4, zz5, zz6, zz7, zz8, zz9, zz10, zz11, zz12, zz13, zz14, fa, blen, Nat.reduceEqDiff, reduceIte, decide_true, decide_false, Bool.not_true, Bool.not_false, Nat.zero_add, Nat.add_zero, s0, s1, s2, h1]) <;> rfl) ?_ | refine gdv_i rfl (by (simp only [zz1, zz2, zz3, zz4, zz5, zz6, zz7, zz8, zz9, zz10, zz11, zz12, zz13, zz14, fa, blen, Nat.reduceEqDiff, reduceIte, decide_true, decide_false, Bool.not_true, Bool.not_false, Nat.zero_add, Nat.add_zero, s0, s1, s2, h1]) <;> rfl) ?_ | refine gdo_i rfl (by (simp only [zz1, zz2, zz3, zz4, zz5, zz6, zz7, zz8, zz9, zz10, zz11, zz12, zz13, zz14, fa, blen, Nat.reduceEqDiff, reduceIte, decide_true, decide_false, Bool.not_true, Bool.not_false, Nat.zero_add, Nat.add_zero, s0, s1, s2, h1]) <;> rfl) ?_ | refine gdk_i rfl ?_ | refine gds_i rfl ?_ | refine gds_u ?_ | rw [gd_true] | rw [gd_false']
    repeat first | rw [then_normal] | rw [then_ret] | rw [then_exit] | rw [exit_normal] | rw [exit_ret] | rw [round_normal] | rw [round_exit] | rw [round_ret] | (rw [exit_exit]; simp only [Nat.reduceEqDiff, reduceIte])
    rw [n68_5_eq]
    refine ifB_t (by (simp only [zz1, zz2, zz3, zz4, zz5, zz6, zz7, zz8, zz9, zz10, zz11, zz12, zz13, zz14, fa, blen, Nat.reduceEqDiff, reduceIte, decide_true, decide_false, Bool.not_true, Bool.not_false, Nat.zero_add, Nat.add_zero, s0, s1, s2, h1]) <;> rfl) ?_
    rw [n68_6_eq, c2_seq]
    rw [n68_7_eq]
    skip
    repeat first | rw [then_normal] | rw [then_ret] | rw [then_exit] | rw [exit_normal] | rw [exit_ret] | rw [round_normal] | rw [round_exit] | rw [round_ret] | (rw [exit_exit]; simp only [Nat.reduceEqDiff, reduceIte])
    rw [n68_8_eq, c2_ret]
    repeat first | rw [then_normal] | rw [then_ret] | rw [then_exit] | rw [exit_normal] | rw [exit_ret] | rw [round_normal] | rw [round_exit] | rw [round_ret] | (rw [exit_exit]; simp only [Nat.reduceEqDiff, reduceIte])
    exact hend _ _ false _ _ rfl (by simp only [put_at, Nat.reduceEqDiff, reduceIte]) ⟨by rw [hr], by rw [hr, set_same hg]⟩
  by_cases h2 : c < 1
  · have hr : reachB f c bs = (false, bs) := if_pos (.inr (.inl h2))
    rw [n68_0_eq, c2_seq]
    rw [n68_1_eq]
    skip
    repeat first | rw [then_normal] | rw [then_ret] | rw [then_exit] | rw [exit_normal] | rw [exit_ret] | rw [round_normal] | rw [round_exit] | rw [round_ret] | (rw [exit_exit]; simp only [Nat.reduceEqDiff, reduceIte])
    rw [n68_2_eq, c2_seq]
    rw [n68_3_eq, c2_seq]
    rw [n68_4_eq]
    repeat first | refine vK_i (by (simp only [zz1, zz2, zz3, zz4, zz5, zz6, zz7, zz8, zz9, zz10, zz11, zz12, zz13, zz14, fa, blen, Nat.reduceEqDiff, reduceIte, decide_true, decide_false, Bool.not_true, Bool.not_false, Nat.zero_add, Nat.add_zero, s0, s1, s2, h1, h2]) <;> rfl) ?_ | refine gdv_i rfl (by (simp only [zz1, zz2, zz3, zz4, zz5, zz6, zz7, zz8, zz9, zz10, zz11, zz12, zz13, zz14, fa, blen, Nat.reduceEqDiff, reduceIte, decide_true, decide_false, Bool.not_true, Bool.not_false, Nat.zero_add, Nat.add_zero, s0, s1, s2, h1, h2]) <;> rfl) ?_ | refine gdo_i rfl (by (simp only [zz1, zz2, zz3, zz4, zz5, zz6, zz7, zz8, zz9, zz10, zz11, zz12, zz13, zz14, fa, blen, Nat.reduceEqDiff, reduceIte, decide_true, decide_false, Bool.not_true, Bool.not_false, Nat.zero_add, Nat.add_zero, s0, s1, s2, h1, h2]) <;> rfl) ?_ | refine gdk_i rfl ?_ | refine gds_i rfl ?_ | refine gds_u ?_ | rw [gd_true] | rw [gd_false']
    repeat first | rw [then_normal] | rw [then_ret] | rw [then_exit] | rw [exit_normal] | rw [exit_ret] | rw [round_normal] | rw [round_exit] | rw [round_ret] | (rw [exit_exit]; simp only [Nat.reduceEqDiff, reduceIte])
    rw [n68_5_eq]
    refine ifB_t (by (simp only [zz1, zz2, zz3, zz4, zz5, zz6, zz7, zz8, zz9, zz10, zz11, zz12, zz13, zz14, fa, blen, Nat.reduceEqDiff, reduceIte, decide_true, decide_false, Bool.not_true, Bool.not_false, Nat.zero_add, Nat.add_zero, s0, s1, s2, h1, h2]) <;> rfl) ?_
    rw [n68_6_eq, c2_seq]
    rw [n68_7_eq]
    skip
    repeat first | rw [then_normal] | rw [then_ret] | rw [then_exit] | rw [exit_normal] | rw [exit_ret] | rw [round_normal] | rw [round_exit] | rw [round_ret] | (rw [exit_exit]; simp only [Nat.reduceEqDiff, reduceIte])
    rw [n68_8_eq, c2_ret]
    repeat first | rw [then_normal] | rw [then_ret] | rw [then_exit] | rw [exit_normal] | rw [exit_ret] | rw [round_normal] | rw [round_exit] | rw [round_ret] | (rw [exit_exit]; simp only [Nat.reduceEqDiff, reduceIte])
    exact hend _ _ false _ _ rfl (by simp only [put_at, Nat.reduceEqDiff, reduceIte]) ⟨by rw [hr], by rw [hr, set_same hg]⟩
  by_cases h3 : 128 < c
  · have hr : reachB f c bs = (false, bs) := if_pos (.inr (.inr (.inl h3)))
    rw [n68_0_eq, c2_seq]
    rw [n68_1_eq]
    skip
    repeat first | rw [then_normal] | rw [then_ret] | rw [then_exit] | rw [exit_normal] | rw [exit_ret] | rw [round_normal] | rw [round_exit] | rw [round_ret] | (rw [exit_exit]; simp only [Nat.reduceEqDiff, reduceIte])
    rw [n68_2_eq, c2_seq]
    rw [n68_3_eq, c2_seq]
    rw [n68_4_eq]
    repeat first | refine vK_i (by (simp only [zz1, zz2, zz3, zz4, zz5, zz6, zz7, zz8, zz9, zz10, zz11, zz12, zz13, zz14, fa, blen, Nat.reduceEqDiff, reduceIte, decide_true, decide_false, Bool.not_true, Bool.not_false, Nat.zero_add, Nat.add_zero, s0, s1, s2, h1, h2, h3]) <;> rfl) ?_ | refine gdv_i rfl (by (simp only [zz1, zz2, zz3, zz4, zz5, zz6, zz7, zz8, zz9, zz10, zz11, zz12, zz13, zz14, fa, blen, Nat.reduceEqDiff, reduceIte, decide_true, decide_false, Bool.not_true, Bool.not_false, Nat.zero_add, Nat.add_zero, s0, s1, s2, h1, h2, h3]) <;> rfl) ?_ | refine gdo_i rfl (by (simp only [zz1, zz2, zz3, zz4, zz5, zz6, zz7, zz8, zz9, zz10, zz11, zz12, zz13, zz14, fa, blen, Nat.reduceEqDiff, reduceIte, decide_true, decide_false, Bool.not_true, Bool.not_false, Nat.zero_add, Nat.add_zero, s0, s1, s2, h1, h2, h3]) <;> rfl) ?_ | refine gdk_i rfl ?_ | refine gds_i rfl ?_ | refine gds_u ?_ | rw [gd_true] | rw [gd_false']
    repeat first | rw [then_normal] | rw [then_ret] | rw [then_exit] | rw [exit_normal] | rw [exit_ret] | rw [round_normal] | rw [round_exit] | rw [round_ret] | (rw [exit_exit]; simp only [Nat.reduceEqDiff, reduceIte])
    rw [n68_5_eq]
    refine ifB_t (by (simp only [zz1, zz2, zz3, zz4, zz5, zz6, zz7, zz8, zz9, zz10, zz11, zz12, zz13, zz14, fa, blen, Nat.reduceEqDiff, reduceIte, decide_true, decide_false, Bool.not_true, Bool.not_false, Nat.zero_add, Nat.add_zero, s0, s1, s2, h1, h2, h3]) <;> rfl) ?_
    rw [n68_6_eq, c2_seq]
    rw [n68_7_eq]
    skip
    repeat first | rw [then_normal] | rw [then_ret] | rw [then_exit] | rw [exit_normal] | rw [exit_ret] | rw [round_normal] | rw [round_exit] | rw [round_ret] | (rw [exit_exit]; simp only [Nat.reduceEqDiff, reduceIte])
    rw [n68_8_eq, c2_ret]
    repeat first | rw [then_normal] | rw [then_ret] | rw [then_exit] | rw [exit_normal] | rw [exit_ret] | rw [round_normal] | rw [round_exit] | rw [round_ret] | (rw [exit_exit]; simp only [Nat.reduceEqDiff, reduceIte])
    exact hend _ _ false _ _ rfl (by simp only [put_at, Nat.reduceEqDiff, reduceIte]) ⟨by rw [hr], by rw [hr, set_same hg]⟩
  have hw : IntKind.i64.wrap (128 - c) = 128 - c := IntWalk.i64_in _ ⟨by omega, by omega⟩
  by_cases h4 : 128 - c < f
  · have hr : reachB f c bs = (false, bs) := if_pos (.inr (.inr (.inr h4)))
    rw [n68_0_eq, c2_seq]
    rw [n68_1_eq]
    skip
    repeat first | rw [then_normal] | rw [then_ret] | rw [then_exit] | rw [exit_normal] | rw [exit_ret] | rw [round_normal] | rw [round_exit] | rw [round_ret] | (rw [exit_exit]; simp only [Nat.reduceEqDiff, reduceIte])
    rw [n68_2_eq, c2_seq]
    rw [n68_3_eq, c2_seq]
    rw [n68_4_eq]
    repeat first | refine vK_i (by (simp only [zz1, zz2, zz3, zz4, zz5, zz6, zz7, zz8, zz9, zz10, zz11, zz12, zz13, zz14, fa, blen, Nat.reduceEqDiff, reduceIte, decide_true, decide_false, Bool.not_true, Bool.not_false, Nat.zero_add, Nat.add_zero, s0, s1, s2, h1, h2, h3, h4, hw]) <;> rfl) ?_ | refine gdv_i rfl (by (simp only [zz1, zz2, zz3, zz4, zz5, zz6, zz7, zz8, zz9, zz10, zz11, zz12, zz13, zz14, fa, blen, Nat.reduceEqDiff, reduceIte, decide_true, decide_false, Bool.not_true, Bool.not_false, Nat.zero_add, Nat.add_zero, s0, s1, s2, h1, h2, h3, h4, hw]) <;> rfl) ?_ | refine gdo_i rfl (by (simp only [zz1, zz2, zz3, zz4, zz5, zz6, zz7, zz8, zz9, zz10, zz11, zz12, zz13, zz14, fa, blen, Nat.reduceEqDiff, reduceIte, decide_true, decide_false, Bool.not_true, Bool.not_false, Nat.zero_add, Nat.add_zero, s0, s1, s2, h1, h2, h3, h4, hw]) <;> rfl) ?_ | refine gdk_i rfl ?_ | refine gds_i rfl ?_ | refine gds_u ?_ | rw [gd_true] | rw [gd_false']
    repeat first | rw [then_normal] | rw [then_ret] | rw [then_exit] | rw [exit_normal] | rw [exit_ret] | rw [round_normal] | rw [round_exit] | rw [round_ret] | (rw [exit_exit]; simp only [Nat.reduceEqDiff, reduceIte])
    rw [n68_5_eq]
    refine ifB_t (by (simp only [zz1, zz2, zz3, zz4, zz5, zz6, zz7, zz8, zz9, zz10, zz11, zz12, zz13, zz14, fa, blen, Nat.reduceEqDiff, reduceIte, decide_true, decide_false, Bool.not_true, Bool.not_false, Nat.zero_add, Nat.add_zero, s0, s1, s2, h1, h2, h3, h4, hw]) <;> rfl) ?_
    rw [n68_6_eq, c2_seq]
    rw [n68_7_eq]
    skip
    repeat first | rw [then_normal] | rw [then_ret] | rw [then_exit] | rw [exit_normal] | rw [exit_ret] | rw [round_normal] | rw [round_exit] | rw [round_ret] | (rw [exit_exit]; simp only [Nat.reduceEqDiff, reduceIte])
    rw [n68_8_eq, c2_ret]
    repeat first | rw [then_normal] | rw [then_ret] | rw [then_exit] | rw [exit_normal] | rw [exit_ret] | rw [round_normal] | rw [round_exit] | rw [round_ret] | (rw [exit_exit]; simp only [Nat.reduceEqDiff, reduceIte])
    exact hend _ _ false _ _ rfl (by simp only [put_at, Nat.reduceEqDiff, reduceIte]) ⟨by rw [hr], by rw [hr, set_same hg]⟩
  have hr : reachB f c bs = reachL c.toNat f.toNat bs := if_neg (by omega)
  rw [n68_0_eq, c2_seq]
  rw [n68_1_eq]
  skip
  repeat first | rw [then_normal] | rw [then_ret] | rw [then_exit] | rw [exit_normal] | rw [exit_ret] | rw [round_normal] | rw [round_exit] | rw [round_ret] | (rw [exit_exit]; simp only [Nat.reduceEqDiff, reduceIte])
  rw [n68_2_eq, c2_seq]
  rw [n68_3_eq, c2_seq]
  rw [n68_4_eq]
  repeat first | refine vK_i (by (simp only [zz1, zz2, zz3, zz4, zz5, zz6, zz7, zz8, zz9, zz10, zz11, zz12, zz13, zz14, fa, blen, Nat.reduceEqDiff, reduceIte, decide_true, decide_false, Bool.not_true, Bool.not_false, Nat.zero_add, Nat.add_zero, s0, s1, s2, h1, h2, h3, h4, hw]) <;> rfl) ?_ | refine gdv_i rfl (by (simp only [zz1, zz2, zz3, zz4, zz5, zz6, zz7, zz8, zz9, zz10, zz11, zz12, zz13, zz14, fa, blen, Nat.reduceEqDiff, reduceIte, decide_true, decide_false, Bool.not_true, Bool.not_false, Nat.zero_add, Nat.add_zero, s0, s1, s2, h1, h2, h3, h4, hw]) <;> rfl) ?_ | refine gdo_i rfl (by (simp only [zz1, zz2, zz3, zz4, zz5, zz6, zz7, zz8, zz9, zz10, zz11, zz12, zz13, zz14, fa, blen, Nat.reduceEqDiff, reduceIte, decide_true, decide_false, Bool.not_true, Bool.not_false, Nat.zero_add, Nat.add_zero, s0, s1, s2, h1, h2, h3, h4, hw]) <;> rfl) ?_ | refine gdk_i rfl ?_ | refine gds_i rfl ?_ | refine gds_u ?_ | rw [gd_true] | rw [gd_false']
  repeat first | rw [then_normal] | rw [then_ret] | rw [then_exit] | rw [exit_normal] | rw [exit_ret] | rw [round_normal] | rw [round_exit] | rw [round_ret] | (rw [exit_exit]; simp only [Nat.reduceEqDiff, reduceIte])
  rw [n68_5_eq]
  refine ifB_f (by (simp only [zz1, zz2, zz3, zz4, zz5, zz6, zz7, zz8, zz9, zz10, zz11, zz12, zz13, zz14, fa, blen, Nat.reduceEqDiff, reduceIte, decide_true, decide_false, Bool.not_true, Bool.not_false, Nat.zero_add, Nat.add_zero, s0, s1, s2, h1, h2, h3, h4, hw]) <;> rfl) ?_
  rw [n68_9_eq, c2_skip]
  repeat first | rw [then_normal] | rw [then_ret] | rw [then_exit] | rw [exit_normal] | rw [exit_ret] | rw [round_normal] | rw [round_exit] | rw [round_ret] | (rw [exit_exit]; simp only [Nat.reduceEqDiff, reduceIte])
  rw [n68_10_eq, c2_seq]
  rw [n68_11_eq, c2_seq]
  rw [n68_12_eq]
  skip
  repeat first | rw [then_normal] | rw [then_ret] | rw [then_exit] | rw [exit_normal] | rw [exit_ret] | rw [round_normal] | rw [round_exit] | rw [round_ret] | (rw [exit_exit]; simp only [Nat.reduceEqDiff, reduceIte])
  rw [n68_13_eq, c2_block]
  rw [n68_14_eq, c2_loop]
  refine loop_of (fun s => ∃ (n p : Nat) (bs' : List Bool), s.tm 0 = .ptr a 0 ∧ s.tm 1 = i f ∧ s.tm 2 = i c ∧ s.tm 7 = i ((p : Nat) : Int) ∧ (p : Int) + n = f + c ∧ bs'.length = 128 ∧ s.g = g.set a (.cells (bs'.map .bool) own) ∧ reachL c.toNat f.toNat bs = reachL n p bs') (fun s => ((f + c) - (match s.tm 7 with | .int _ x => x | _ => 0)).toNat) ?_ ?_
  · exact ⟨c.toNat, f.toNat, bs, by simp only [put_at, Nat.reduceEqDiff, reduceIte, s0], by simp only [put_at, Nat.reduceEqDiff, reduceIte, s1], by simp only [put_at, Nat.reduceEqDiff, reduceIte, s2],
      by simp only [put_at, Nat.reduceEqDiff, reduceIte, s1]; rw [Int.toNat_of_nonneg (by omega)], by omega, hl, (set_same hg).symm, rfl⟩
  rintro ⟨tm', g'⟩ ⟨n, p, bs', t0, t1, t2, t7, hp, hl', hg', hs⟩
  simp only at t0 t1 t2 t7 hg'
  subst hg'
  have hw2 : IntKind.i64.wrap (f + c) = f + c := IntWalk.i64_in _ ⟨by omega, by omega⟩
  have hgs := get_set_same (g := g) a (.cells (bs'.map .bool) own)
  cases n with
  | zero =>
    have hlt : ¬ ((p : Int) < f + c) := by omega
    rw [n68_15_eq, c2_seq]
    rw [n68_16_eq, c2_seq]
    rw [n68_17_eq]
    repeat first | refine vK_i (by (simp only [zz1, zz2, zz3, zz4, zz5, zz6, zz7, zz8, zz9, zz10, zz11, zz12, zz13, zz14, fa, blen, Nat.reduceEqDiff, reduceIte, decide_true, decide_false, Bool.not_true, Bool.not_false, Nat.zero_add, Nat.add_zero, t0, t1, t2, t7, hw2, hlt]) <;> rfl) ?_
    repeat first | rw [then_normal] | rw [then_ret] | rw [then_exit] | rw [exit_normal] | rw [exit_ret] | rw [round_normal] | rw [round_exit] | rw [round_ret] | (rw [exit_exit]; simp only [Nat.reduceEqDiff, reduceIte])
    rw [n68_18_eq]
    refine ifB_f (by (simp only [zz1, zz2, zz3, zz4, zz5, zz6, zz7, zz8, zz9, zz10, zz11, zz12, zz13, zz14, fa, blen, Nat.reduceEqDiff, reduceIte, decide_true, decide_false, Bool.not_true, Bool.not_false, Nat.zero_add, Nat.add_zero, t0, t1, t2, t7, hw2, hlt]) <;> rfl) ?_
    rw [n68_20_eq, c2_exit]
    repeat first | rw [then_normal] | rw [then_ret] | rw [then_exit] | rw [exit_normal] | rw [exit_ret] | rw [round_normal] | rw [round_exit] | rw [round_ret] | (rw [exit_exit]; simp only [Nat.reduceEqDiff, reduceIte])
    rw [n68_33_eq, c2_seq]
    rw [n68_34_eq]
    skip
    repeat first | rw [then_normal] | rw [then_ret] | rw [then_exit] | rw [exit_normal] | rw [exit_ret] | rw [round_normal] | rw [round_exit] | rw [round_ret] | (rw [exit_exit]; simp only [Nat.reduceEqDiff, reduceIte])
    rw [n68_35_eq, c2_ret]
    repeat first | rw [then_normal] | rw [then_ret] | rw [then_exit] | rw [exit_normal] | rw [exit_ret] | rw [round_normal] | rw [round_exit] | rw [round_ret] | (rw [exit_exit]; simp only [Nat.reduceEqDiff, reduceIte])
    exact hend _ _ true _ _ rfl (by simp only [put_at, Nat.reduceEqDiff, reduceIte]) ⟨by rw [hr, hs]; rfl, by rw [hr, hs]; rfl⟩
  | succ n =>
    have hlt : (p : Int) < f + c := by omega
    have hp128 : p < 128 := by omega
    by_cases hb : bs'.getD p false = true
    · have hs' : reachL c.toNat f.toNat bs = (false, bs') := by rw [hs, reachL, if_pos hb]
      rw [n68_15_eq, c2_seq]
      rw [n68_16_eq, c2_seq]
      rw [n68_17_eq]
      repeat first | refine vK_i (by simp only [put_at, Nat.reduceEqDiff, reduceIte, nilCheck_ptr, t0, t7]; exact ix_ptr a p 128 hp128) ?_ | refine vK_i (load_bool hgs (by omega)) ?_ | refine gK_i (store_bool hgs ho (by omega)) ?_ | refine vK_i (by (simp only [zz1, zz2, zz3, zz4, zz5, zz6, zz7, zz8, zz9, zz10, zz11, zz12, zz13, zz14, fa, blen, Nat.reduceEqDiff, reduceIte, decide_true, decide_false, Bool.not_true, Bool.not_false, Nat.zero_add, Nat.add_zero, t0, t1, t2, t7, hw2, hlt, hb]) <;> rfl) ?_
      repeat first | rw [then_normal] | rw [then_ret] | rw [then_exit] | rw [exit_normal] | rw [exit_ret] | rw [round_normal] | rw [round_exit] | rw [round_ret] | (rw [exit_exit]; simp only [Nat.reduceEqDiff, reduceIte])
      rw [n68_18_eq]
      refine ifB_t (by (simp only [zz1, zz2, zz3, zz4, zz5, zz6, zz7, zz8, zz9, zz10, zz11, zz12, zz13, zz14, fa, blen, Nat.reduceEqDiff, reduceIte, decide_true, decide_false, Bool.not_true, Bool.not_false, Nat.zero_add, Nat.add_zero, t0, t1, t2, t7, hw2, hlt, hb]) <;> rfl) ?_
      rw [n68_19_eq, c2_skip]
      repeat first | rw [then_normal] | rw [then_ret] | rw [then_exit] | rw [exit_normal] | rw [exit_ret] | rw [round_normal] | rw [round_exit] | rw [round_ret] | (rw [exit_exit]; simp only [Nat.reduceEqDiff, reduceIte])
      rw [n68_21_eq, c2_seq]
      rw [n68_22_eq, c2_block]
      rw [n68_23_eq, c2_seq]
      rw [n68_24_eq, c2_seq]
      rw [n68_25_eq]
      repeat first | refine vK_i (by simp only [put_at, Nat.reduceEqDiff, reduceIte, nilCheck_ptr, t0, t7]; exact ix_ptr a p 128 hp128) ?_ | refine vK_i (load_bool hgs (by omega)) ?_ | refine gK_i (store_bool hgs ho (by omega)) ?_ | refine vK_i (by (simp only [zz1, zz2, zz3, zz4, zz5, zz6, zz7, zz8, zz9, zz10, zz11, zz12, zz13, zz14, fa, blen, Nat.reduceEqDiff, reduceIte, decide_true, decide_false, Bool.not_true, Bool.not_false, Nat.zero_add, Nat.add_zero, t0, t1, t2, t7, hw2, hlt, hb]) <;> rfl) ?_
      repeat first | rw [then_normal] | rw [then_ret] | rw [then_exit] | rw [exit_normal] | rw [exit_ret] | rw [round_normal] | rw [round_exit] | rw [round_ret] | (rw [exit_exit]; simp only [Nat.reduceEqDiff, reduceIte])
      rw [n68_26_eq]
      refine ifB_t (by (simp only [zz1, zz2, zz3, zz4, zz5, zz6, zz7, zz8, zz9, zz10, zz11, zz12, zz13, zz14, fa, blen, Nat.reduceEqDiff, reduceIte, decide_true, decide_false, Bool.not_true, Bool.not_false, Nat.zero_add, Nat.add_zero, t0, t1, t2, t7, hw2, hlt, hb]) <;> rfl) ?_
      rw [n68_27_eq, c2_seq]
      rw [n68_28_eq]
      repeat first | refine vK_i (by simp only [put_at, Nat.reduceEqDiff, reduceIte, nilCheck_ptr, t0, t7]; exact ix_ptr a p 128 hp128) ?_ | refine vK_i (load_bool hgs (by omega)) ?_ | refine gK_i (store_bool hgs ho (by omega)) ?_
      repeat first | rw [then_normal] | rw [then_ret] | rw [then_exit] | rw [exit_normal] | rw [exit_ret] | rw [round_normal] | rw [round_exit] | rw [round_ret] | (rw [exit_exit]; simp only [Nat.reduceEqDiff, reduceIte])
      rw [n68_29_eq, c2_ret]
      repeat first | rw [then_normal] | rw [then_ret] | rw [then_exit] | rw [exit_normal] | rw [exit_ret] | rw [round_normal] | rw [round_exit] | rw [round_ret] | (rw [exit_exit]; simp only [Nat.reduceEqDiff, reduceIte])
      exact hend _ _ false _ _ rfl (by simp only [put_at, Nat.reduceEqDiff, reduceIte]) ⟨by rw [hr, hs'], by rw [hr, hs']⟩
    · have hb' : bs'.getD p false = false := by simpa using hb
      have hw3 : IntKind.i64.wrap ((p : Int) + 1) = ((p + 1 : Nat) : Int) := by rw [IntWalk.i64_in _ ⟨by omega, by omega⟩]; rfl
      rw [n68_15_eq, c2_seq]
      rw [n68_16_eq, c2_seq]
      rw [n68_17_eq]
      repeat first | refine vK_i (by simp only [put_at, Nat.reduceEqDiff, reduceIte, nilCheck_ptr, t0, t7]; exact ix_ptr a p 128 hp128) ?_ | refine vK_i (load_bool hgs (by omega)) ?_ | refine gK_i (store_bool hgs ho (by omega)) ?_ | refine vK_i (by (simp only [zz1, zz2, zz3, zz4, zz5, zz6, zz7, zz8, zz9, zz10, zz11, zz12, zz13, zz14, fa, blen, Nat.reduceEqDiff, reduceIte, decide_true, decide_false, Bool.not_true, Bool.not_false, Nat.zero_add, Nat.add_zero, t0, t1, t2, t7, hw2, hlt, hb', hw3]) <;> rfl) ?_
      repeat first | rw [then_normal] | rw [then_ret] | rw [then_exit] | rw [exit_normal] | rw [exit_ret] | rw [round_normal] | rw [round_exit] | rw [round_ret] | (rw [exit_exit]; simp only [Nat.reduceEqDiff, reduceIte])
      rw [n68_18_eq]
      refine ifB_t (by (simp only [zz1, zz2, zz3, zz4, zz5, zz6, zz7, zz8, zz9, zz10, zz11, zz12, zz13, zz14, fa, blen, Nat.reduceEqDiff, reduceIte, decide_true, decide_false, Bool.not_true, Bool.not_false, Nat.zero_add, Nat.add_zero, t0, t1, t2, t7, hw2, hlt, hb', hw3]) <;> rfl) ?_
      rw [n68_19_eq, c2_skip]
      repeat first | rw [then_normal] | rw [then_ret] | rw [then_exit] | rw [exit_normal] | rw [exit_ret] | rw [round_normal] | rw [round_exit] | rw [round_ret] | (rw [exit_exit]; simp only [Nat.reduceEqDiff, reduceIte])
      rw [n68_21_eq, c2_seq]
      rw [n68_22_eq, c2_block]
      rw [n68_23_eq, c2_seq]
      rw [n68_24_eq, c2_seq]
      rw [n68_25_eq]
      repeat first | refine vK_i (by simp only [put_at, Nat.reduceEqDiff, reduceIte, nilCheck_ptr, t0, t7]; exact ix_ptr a p 128 hp128) ?_ | refine vK_i (load_bool hgs (by omega)) ?_ | refine gK_i (store_bool hgs ho (by omega)) ?_ | refine vK_i (by (simp only [zz1, zz2, zz3, zz4, zz5, zz6, zz7, zz8, zz9, zz10, zz11, zz12, zz13, zz14, fa, blen, Nat.reduceEqDiff, reduceIte, decide_true, decide_false, Bool.not_true, Bool.not_false, Nat.zero_add, Nat.add_zero, t0, t1, t2, t7, hw2, hlt, hb', hw3]) <;> rfl) ?_
      repeat first | rw [then_normal] | rw [then_ret] | rw [then_exit] | rw [exit_normal] | rw [exit_ret] | rw [round_normal] | rw [round_exit] | rw [round_ret] | (rw [exit_exit]; simp only [Nat.reduceEqDiff, reduceIte])
      rw [n68_26_eq]
      refine ifB_f (by (simp only [zz1, zz2, zz3, zz4, zz5, zz6, zz7, zz8, zz9, zz10, zz11, zz12, zz13, zz14, fa, blen, Nat.reduceEqDiff, reduceIte, decide_true, decide_false, Bool.not_true, Bool.not_false, Nat.zero_add, Nat.add_zero, t0, t1, t2, t7, hw2, hlt, hb', hw3]) <;> rfl) ?_
      rw [n68_30_eq, c2_skip]
      repeat first | rw [then_normal] | rw [then_ret] | rw [then_exit] | rw [exit_normal] | rw [exit_ret] | rw [round_normal] | rw [round_exit] | rw [round_ret] | (rw [exit_exit]; simp only [Nat.reduceEqDiff, reduceIte])
      rw [n68_31_eq]
      repeat first | refine vK_i (by simp only [put_at, Nat.reduceEqDiff, reduceIte, nilCheck_ptr, t0, t7]; exact ix_ptr a p 128 hp128) ?_ | refine vK_i (load_bool hgs (by omega)) ?_ | refine gK_i (store_bool hgs ho (by omega)) ?_ | refine vK_i (by (simp only [zz1, zz2, zz3, zz4, zz5, zz6, zz7, zz8, zz9, zz10, zz11, zz12, zz13, zz14, fa, blen, Nat.reduceEqDiff, reduceIte, decide_true, decide_false, Bool.not_true, Bool.not_false, Nat.zero_add, Nat.add_zero, t0, t1, t2, t7, hw2, hlt, hb', hw3]) <;> rfl) ?_ | refine gK_i (by (simp only [zz1, zz2, zz3, zz4, zz5, zz6, zz7, zz8, zz9, zz10, zz11, zz12, zz13, zz14, fa, blen, Nat.reduceEqDiff, reduceIte, decide_true, decide_false, Bool.not_true, Bool.not_false, Nat.zero_add, Nat.add_zero, t0, t1, t2, t7, hw2, hlt, hb', hw3]) <;> rfl) ?_
      repeat first | rw [then_normal] | rw [then_ret] | rw [then_exit] | rw [exit_normal] | rw [exit_ret] | rw [round_normal] | rw [round_exit] | rw [round_ret] | (rw [exit_exit]; simp only [Nat.reduceEqDiff, reduceIte])
      rw [n68_32_eq]
      repeat first | refine vK_i (by simp only [put_at, Nat.reduceEqDiff, reduceIte, nilCheck_ptr, t0, t7]; exact ix_ptr a p 128 hp128) ?_ | refine vK_i (load_bool hgs (by omega)) ?_ | refine gK_i (store_bool hgs ho (by omega)) ?_ | refine vK_i (by (simp only [zz1, zz2, zz3, zz4, zz5, zz6, zz7, zz8, zz9, zz10, zz11, zz12, zz13, zz14, fa, blen, Nat.reduceEqDiff, reduceIte, decide_true, decide_false, Bool.not_true, Bool.not_false, Nat.zero_add, Nat.add_zero, t0, t1, t2, t7, hw2, hlt, hb', hw3]) <;> rfl) ?_
      repeat first | rw [then_normal] | rw [then_ret] | rw [then_exit] | rw [exit_normal] | rw [exit_ret] | rw [round_normal] | rw [round_exit] | rw [round_ret] | (rw [exit_exit]; simp only [Nat.reduceEqDiff, reduceIte])
      refine ⟨⟨n, p + 1, bs'.set p true, by simp only [put_at, Nat.reduceEqDiff, reduceIte, t0], by simp only [put_at, Nat.reduceEqDiff, reduceIte, t1], by simp only [put_at, Nat.reduceEqDiff, reduceIte, t2], by simp only [put_at, Nat.reduceEqDiff, reduceIte], by omega, by simp [hl'], set_set _ _ _, ?_⟩, ?_⟩
      · rw [hs, reachL, if_neg hb]
      · simp only [put_at, Nat.reduceEqDiff, reduceIte, t7]
        have e1 : f + c - (p : Int) = ((n + 1 : Nat) : Int) := by omega
        have e2 : f + c - ((p + 1 : Nat) : Int) = (n : Int) := by omega
        rw [e1, e2]
        omega

set_option maxRecDepth 1000000 in
theorem fine70 : fineF Try.prog 70 = true := by kernel_rfl
theorem res70 (tm : Nat → LV) (g : LHeap) : resL Try.prog tm g Try.f70.results.toList = some [tm 6] := by kernel_rfl
theorem len70 : 3 ≤ Try.f70.ntmps := Nat.le_of_ble_eq_true (by kernel_rfl)
theorem marks_ok {g : LHeap} {a : Nat} {cap : Cap} {own : Own} {bs : List Bool} (hl : bs.length = 128) (hg : g.get a = some (.cells (bs.map .bool) own)) (ho : own ≠ .ro) (f c : Int) :
    Ok Try.prog 70 [.slice a 0 128 cap, i f, i c] g fun v g' => v = .bool (reachB f c bs).1 ∧ g' = g.set a (.cells ((reachB f c bs).2.map .bool) own) := by
  refine ok_fn Try.mixed Try.func70 fine70 len70 ?_
  rw [show bodyC Try.prog 70 = n70_0 from by kernel_rfl]
  have s0 : startL [.slice a 0 128 cap, i f, i c] 0 = .slice a 0 128 cap := rfl
  have s1 : startL [.slice a 0 128 cap, i f, i c] 1 = i f := rfl
  have s2 : startL [.slice a 0 128 cap, i f, i c] 2 = i c := rfl
  generalize startL [.slice a 0 128 cap, i f, i c] = tm at s0 s1 s2
  have hend : ∀ (tm : Nat → LV) (g' : LHeap) (b : Bool) (e : LEx) (K : LV → LHeap → Prop), e = .ret → tm 6 = .bool b → K (.bool b) g' → endL Try.prog Try.f70 K e ⟨tm, g'⟩ := by
    intro tm g' b e K he h hk
    subst he
    simp only [endL, res70, h]
    exact hk
  by_cases h1 : f < 0
  · have hr : reachB f c bs = (false, bs) := if_pos (.inl h1)
    rw [n70_0_eq, c2_seq]
    rw [n70_1_eq]
    skip
    repeat first | rw [then_normal] | rw [then_ret] | rw [then_exit] | rw [exit_normal] | rw [exit_ret] | rw [round_normal] | rw [round_exit] | rw [round_ret] | (rw [exit_exit]; simp only [Nat.reduceEqDiff, reduceIte])
    rw [n70_2_eq, c2_seq]
    rw [n70_3_eq, c2_seq]
    rw [n70_4_eq]
    repeat first | refine vK_i (by (simp only [zz1, zz2, zz3, zz4, zz5, zz6, zz7, zz8, zz9, zz10, zz11, zz12, zz13, zz14, fa, blen, Nat.reduceEqDiff, reduceIte, decide_true, decide_false, Bool.not_true, Bool.not_false, Nat.zero_add, Nat.add_zero, s0, s1, s2, h1]) <;> rfl) ?_ | refine gdv_i rfl (by (simp only [zz1, zz2, zz3, zz4, zz5, zz6, zz7, zz8, zz9, zz10, zz11, zz12, zz13, zz14, fa, blen, Nat.reduceEqDiff, reduceIte, decide_true, decide_false, Bool.not_true, Bool.not_false, Nat.zero_add, Nat.add_zero, s0, s1, s2, h1]) <;> rfl) ?_ | refine gdo_i rfl (by (simp only [zz1, zz2, zz3, zz4, zz5, zz6, zz7, zz8, zz9, zz10, zz11, zz12, zz13, zz14, fa, blen, Nat.reduceEqDiff, reduceIte, decide_true, decide_false, Bool.not_true, Bool.not_false, Nat.zero_add, Nat.add_zero, s0, s1, s2, h1]) <;> rfl) ?_ | refine gdk_i rfl ?_ | refine gds_i rfl ?_ | refine gds_u ?_ | rw [gd_true] | rw [gd_false']
    repeat first | rw [then_normal] | rw [then_ret] | rw [then_exit] | rw [exit_normal] | rw [exit_ret] | rw [round_normal] | rw [round_exit] | rw [round_ret] | (rw [exit_exit]; simp only [Nat.reduceEqDiff, reduceIte])
    rw [n70_5_eq]
    refine ifB_t (by (simp only [zz1, zz2, zz3, zz4, zz5, zz6, zz7, zz8, zz9, zz10, zz11, zz12, zz13, zz14, fa, blen, Nat.reduceEqDiff, reduceIte, decide_true, decide_false, Bool.not_true, Bool.not_false, Nat.zero_add, Nat.add_zero, s0, s1, s2, h1]) <;> rfl) ?_
    rw [n70_6_eq, c2_seq]
    rw [n70_7_eq]
    skip
    repeat first | rw [then_normal] | rw [then_ret] | rw [then_exit] | rw [exit_normal] | rw [exit_ret] | rw [round_normal] | rw [round_exit] | rw [round_ret] | (rw [exit_exit]; simp only [Nat.reduceEqDiff, reduceIte])
    rw [n70_8_eq, c2_ret]
    repeat first | rw [then_normal] | rw [then_ret] | rw [then_exit] | rw [exit_normal] | rw [exit_ret] | rw [round_normal] | rw [round_exit] | rw [round_ret] | (rw [exit_exit]; simp only [Nat.reduceEqDiff, reduceIte])
    exact hend _ _ false _ _ rfl (by simp only [put_at, Nat.reduceEqDiff, reduceIte]) ⟨by rw [hr], by rw [hr, set_same hg]⟩
  by_cases h2 : c < 1
  · have hr : reachB f c bs = (false, bs) := if_pos (.inr (.inl h2))
    rw [n70_0_eq, c2_seq]
    rw [n70_1_eq]
    skip
    repeat first | rw [then_normal] | rw [then_ret] | rw [then_exit] | rw [exit_normal] | rw [exit_ret] | rw [round_normal] | rw [round_exit] | rw [round_ret] | (rw [exit_exit]; simp only [Nat.reduceEqDiff, reduceIte])
    rw [n70_2_eq, c2_seq]
    rw [n70_3_eq, c2_seq]
    rw [n70_4_eq]
    repeat first | refine vK_i (by (simp only [zz1, zz2, zz3, zz4, zz5, zz6, zz7, zz8, zz9, zz10, zz11, zz12, zz13, zz14, fa, blen, Nat.reduceEqDiff, reduceIte, decide_true, decide_false, Bool.not_true, Bool.not_false, Nat.zero_add, Nat.add_zero, s0, s1, s2, h1, h2]) <;> rfl) ?_ | refine gdv_i rfl (by (simp only [zz1, zz2, zz3, zz4, zz5, zz6, zz7, zz8, zz9, zz10, zz11, zz12, zz13, zz14, fa, blen, Nat.reduceEqDiff, reduceIte, decide_true, decide_false, Bool.not_true, Bool.not_false, Nat.zero_add, Nat.add_zero, s0, s1, s2, h1, h2]) <;> rfl) ?_ | refine gdo_i rfl (by (simp only [zz1, zz2, zz3, zz4, zz5, zz6, zz7, zz8, zz9, zz10, zz11, zz12, zz13, zz14, fa, blen, Nat.reduceEqDiff, reduceIte, decide_true, decide_false, Bool.not_true, Bool.not_false, Nat.zero_add, Nat.add_zero, s0, s1, s2, h1, h2]) <;> rfl) ?_ | refine gdk_i rfl ?_ | refine gds_i rfl ?_ | refine gds_u ?_ | rw [gd_true] | rw [gd_false']
    repeat first | rw [then_normal] | rw [then_ret] | rw [then_exit] | rw [exit_normal] | rw [exit_ret] | rw [round_normal] | rw [round_exit] | rw [round_ret] | (rw [exit_exit]; simp only [Nat.reduceEqDiff, reduceIte])
    rw [n70_5_eq]
    refine ifB_t (by (simp only [zz1, zz2, zz3, zz4, zz5, zz6, zz7, zz8, zz9, zz10, zz11, zz12, zz13, zz14, fa, blen, Nat.reduceEqDiff, reduceIte, decide_true, decide_false, Bool.not_true, Bool.not_false, Nat.zero_add, Nat.add_zero, s0, s1, s2, h1, h2]) <;> rfl) ?_
    rw [n70_6_eq, c2_seq]
    rw [n70_7_eq]
    skip
    repeat first | rw [then_normal] | rw [then_ret] | rw [then_exit] | rw [exit_normal] | rw [exit_ret] | rw [round_normal] | rw [round_exit] | rw [round_ret] | (rw [exit_exit]; simp only [Nat.reduceEqDiff, reduceIte])
    rw [n70_8_eq, c2_ret]
    repeat first | rw [then_normal] | rw [then_ret] | rw [then_exit] | rw [exit_normal] | rw [exit_ret] | rw [round_normal] | rw [round_exit] | rw [round_ret] | (rw [exit_exit]; simp only [Nat.reduceEqDiff, reduceIte])
    exact hend _ _ false _ _ rfl (by simp only [put_at, Nat.reduceEqDiff, reduceIte]) ⟨by rw [hr], by rw [hr, set_same hg]⟩
  by_cases h3 : 128 < c
  · have hr : reachB f c bs = (false, bs) := if_pos (.inr (.inr (.inl h3)))
    rw [n70_0_eq, c2_seq]
    rw [n70_1_eq]
    skip
    repeat first | rw [then_normal] | rw [then_ret] | rw [then_exit] | rw [exit_normal] | rw [exit_ret] | rw [round_normal] | rw [round_exit] | rw [round_ret] | (rw [exit_exit]; simp only [Nat.reduceEqDiff, reduceIte])
    rw [n70_2_eq, c2_seq]
    rw [n70_3_eq, c2_seq]
    rw [n70_4_eq]
    repeat first | refine vK_i (by (simp only [zz1, zz2, zz3, zz4, zz5, zz6, zz7, zz8, zz9, zz10, zz11, zz12, zz13, zz14, fa, blen, Nat.reduceEqDiff, reduceIte, decide_true, decide_false, Bool.not_true, Bool.not_false, Nat.zero_add, Nat.add_zero, s0, s1, s2, h1, h2, h3]) <;> rfl) ?_ | refine gdv_i rfl (by (simp only [zz1, zz2, zz3, zz4, zz5, zz6, zz7, zz8, zz9, zz10, zz11, zz12, zz13, zz14, fa, blen, Nat.reduceEqDiff, reduceIte, decide_true, decide_false, Bool.not_true, Bool.not_false, Nat.zero_add, Nat.add_zero, s0, s1, s2, h1, h2, h3]) <;> rfl) ?_ | refine gdo_i rfl (by (simp only [zz1, zz2, zz3, zz4, zz5, zz6, zz7, zz8, zz9, zz10, zz11, zz12, zz13, zz14, fa, blen, Nat.reduceEqDiff, reduceIte, decide_true, decide_false, Bool.not_true, Bool.not_false, Nat.zero_add, Nat.add_zero, s0, s1, s2, h1, h2, h3]) <;> rfl) ?_ | refine gdk_i rfl ?_ | refine gds_i rfl ?_ | refine gds_u ?_ | rw [gd_true] | rw [gd_false']
    repeat first | rw [then_normal] | rw [then_ret] | rw [then_exit] | rw [exit_normal] | rw [exit_ret] | rw [round_normal] | rw [round_exit] | rw [round_ret] | (rw [exit_exit]; simp only [Nat.reduceEqDiff, reduceIte])
    rw [n70_5_eq]
    refine ifB_t (by (simp only [zz1, zz2, zz3, zz4, zz5, zz6, zz7, zz8, zz9, zz10, zz11, zz12, zz13, zz14, fa, blen, Nat.reduceEqDiff, reduceIte, decide_true, decide_false, Bool.not_true, Bool.not_false, Nat.zero_add, Nat.add_zero, s0, s1, s2, h1, h2, h3]) <;> rfl) ?_
    rw [n70_6_eq, c2_seq]
    rw [n70_7_eq]
    skip
    repeat first | rw [then_normal] | rw [then_ret] | rw [then_exit] | rw [exit_normal] | rw [exit_ret] | rw [round_normal] | rw [round_exit] | rw [round_ret] | (rw [exit_exit]; simp only [Nat.reduceEqDiff, reduceIte])
    rw [n70_8_eq, c2_ret]
    repeat first | rw [then_normal] | rw [then_ret] | rw [then_exit] | rw [exit_normal] | rw [exit_ret] | rw [round_normal] | rw [round_exit] | rw [round_ret] | (rw [exit_exit]; simp only [Nat.reduceEqDiff, reduceIte])
    exact hend _ _ false _ _ rfl (by simp only [put_at, Nat.reduceEqDiff, reduceIte]) ⟨by rw [hr], by rw [hr, set_same hg]⟩
  have hw : IntKind.i64.wrap (128 - c) = 128 - c := IntWalk.i64_in _ ⟨by omega, by omega⟩
  by_cases h4 : 128 - c < f
  · have hr : reachB f c bs = (false, bs) := if_pos (.inr (.inr (.inr h4)))
    rw [n70_0_eq, c2_seq]
    rw [n70_1_eq]
    skip
    repeat first | rw [then_normal] | rw [then_ret] | rw [then_exit] | rw [exit_normal] | rw [exit_ret] | rw [round_normal] | rw [round_exit] | rw [round_ret] | (rw [exit_exit]; simp only [Nat.reduceEqDiff, reduceIte])
    rw [n70_2_eq, c2_seq]
    rw [n70_3_eq, c2_seq]
    rw [n70_4_eq]
    repeat first | refine vK_i (by (simp only [zz1, zz2, zz3, zz4, zz5, zz6, zz7, zz8, zz9, zz10, zz11, zz12, zz13, zz14, fa, blen, Nat.reduceEqDiff, reduceIte, decide_true, decide_false, Bool.not_true, Bool.not_false, Nat.zero_add, Nat.add_zero, s0, s1, s2, h1, h2, h3, h4, hw]) <;> rfl) ?_ | refine gdv_i rfl (by (simp only [zz1, zz2, zz3, zz4, zz5, zz6, zz7, zz8, zz9, zz10, zz11, zz12, zz13, zz14, fa, blen, Nat.reduceEqDiff, reduceIte, decide_true, decide_false, Bool.not_true, Bool.not_false, Nat.zero_add, Nat.add_zero, s0, s1, s2, h1, h2, h3, h4, hw]) <;> rfl) ?_ | refine gdo_i rfl (by (simp only [zz1, zz2, zz3, zz4, zz5, zz6, zz7, zz8, zz9, zz10, zz11, zz12, zz13, zz14, fa, blen, Nat.reduceEqDiff, reduceIte, decide_true, decide_false, Bool.not_true, Bool.not_false, Nat.zero_add, Nat.add_zero, s0, s1, s2, h1, h2, h3, h4, hw]) <;> rfl) ?_ | refine gdk_i rfl ?_ | refine gds_i rfl ?_ | refine gds_u ?_ | rw [gd_true] | rw [gd_false']
    repeat first | rw [then_normal] | rw [then_ret] | rw [then_exit] | rw [exit_normal] | rw [exit_ret] | rw [round_normal] | rw [round_exit] | rw [round_ret] | (rw [exit_exit]; simp only [Nat.reduceEqDiff, reduceIte])
    rw [n70_5_eq]
    refine ifB_t (by (simp only [zz1, zz2, zz3, zz4, zz5, zz6, zz7, zz8, zz9, zz10, zz11, zz12, zz13, zz14, fa, blen, Nat.reduceEqDiff, reduceIte, decide_true, decide_false, Bool.not_true, Bool.not_false, Nat.zero_add, Nat.add_zero, s0, s1, s2, h1, h2, h3, h4, hw]) <;> rfl) ?_
    rw [n70_6_eq, c2_seq]
    rw [n70_7_eq]
    skip
    repeat first | rw [then_normal] | rw [then_ret] | rw [then_exit] | rw [exit_normal] | rw [exit_ret] | rw [round_normal] | rw [round_exit] | rw [round_ret] | (rw [exit_exit]; simp only [Nat.reduceEqDiff, reduceIte])
    rw [n70_8_eq, c2_ret]
    repeat first | rw [then_normal] | rw [then_ret] | rw [then_exit] | rw [exit_normal] | rw [exit_ret] | rw [round_normal] | rw [round_exit] | rw [round_ret] | (rw [exit_exit]; simp only [Nat.reduceEqDiff, reduceIte])
    exact hend _ _ false _ _ rfl (by simp only [put_at, Nat.reduceEqDiff, reduceIte]) ⟨by rw [hr], by rw [hr, set_same hg]⟩
  have hr : reachB f c bs = reachL c.toNat f.toNat bs := if_neg (by omega)
  rw [n70_0_eq, c2_seq]
  rw [n70_1_eq]
  skip
  repeat first | rw [then_normal] | rw [then_ret] | rw [then_exit] | rw [exit_normal] | rw [exit_ret] | rw [round_normal] | rw [round_exit] | rw [round_ret] | (rw [exit_exit]; simp only [Nat.reduceEqDiff, reduceIte])
  rw [n70_2_eq, c2_seq]
  rw [n70_3_eq, c2_seq]
  rw [n70_4_eq]
  repeat first | refine vK_i (by (simp only [zz1, zz2, zz3, zz4, zz5, zz6, zz7, zz8, zz9, zz10, zz11, zz12, zz13, zz14, fa, blen, Nat.reduceEqDiff, reduceIte, decide_true, decide_false, Bool.not_true, Bool.not_false, Nat.zero_add, Nat.add_zero, s0, s1, s2, h1, h2, h3, h4, hw]) <;> rfl) ?_ | refine gdv_i rfl (by (simp only [zz1, zz2, zz3, zz4, zz5, zz6, zz7, zz8, zz9, zz10, zz11, zz12, zz13, zz14, fa, blen, Nat.reduceEqDiff, reduceIte, decide_true, decide_false, Bool.not_true, Bool.not_false, Nat.zero_add, Nat.add_zero, s0, s1, s2, h1, h2, h3, h4, hw]) <;> rfl) ?_ | refine gdo_i rfl (by (simp only [zz1, zz2, zz3, zz4, zz5, zz6, zz7, zz8, zz9, zz10, zz11, zz12, zz13, zz14, fa, blen, Nat.reduceEqDiff, reduceIte, decide_true, decide_false, Bool.not_true, Bool.not_false, Nat.zero_add, Nat.add_zero, s0, s1, s2, h1, h2, h3, h4, hw]) <;> rfl) ?_ | refine gdk_i rfl ?_ | refine gds_i rfl ?_ | refine gds_u ?_ | rw [gd_true] | rw [gd_false']
  repeat first | rw [then_normal] | rw [then_ret] | rw [then_exit] | rw [exit_normal] | rw [exit_ret] | rw [round_normal] | rw [round_exit] | rw [round_ret] | (rw [exit_exit]; simp only [Nat.reduceEqDiff, reduceIte])
  rw [n70_5_eq]
  refine ifB_f (by (simp only [zz1, zz2, zz3, zz4, zz5, zz6, zz7, zz8, zz9, zz10, zz11, zz12, zz13, zz14, fa, blen, Nat.reduceEqDiff, reduceIte, decide_true, decide_false, Bool.not_true, Bool.not_false, Nat.zero_add, Nat.add_zero, s0, s1, s2, h1, h2, h3, h4, hw]) <;> rfl) ?_
  rw [n70_9_eq, c2_skip]
  repeat first | rw [then_normal] | rw [then_ret] | rw [then_exit] | rw [exit_normal] | rw [exit_ret] | rw [round_normal] | rw [round_exit] | rw [round_ret] | (rw [exit_exit]; simp only [Nat.reduceEqDiff, reduceIte])
  rw [n70_10_eq, c2_seq]
  rw [n70_11_eq, c2_seq]
  rw [n70_12_eq]
  skip
  repeat first | rw [then_normal] | rw [then_ret] | rw [then_exit] | rw [exit_normal] | rw [exit_ret] | rw [round_normal] | rw [round_exit] | rw [round_ret] | (rw [exit_exit]; simp only [Nat.reduceEqDiff, reduceIte])
  rw [n70_13_eq, c2_block]
  rw [n70_14_eq, c2_loop]
  refine loop_of (fun s => ∃ (n p : Nat) (bs' : List Bool), s.tm 0 = .slice a 0 128 cap ∧ s.tm 1 = i f ∧ s.tm 2 = i c ∧ s.tm 7 = i ((p : Nat) : Int) ∧ (p : Int) + n = f + c ∧ bs'.length = 128 ∧ s.g = g.set a (.cells (bs'.map .bool) own) ∧ reachL c.toNat f.toNat bs = reachL n p bs') (fun s => ((f + c) - (match s.tm 7 with | .int _ x => x | _ => 0)).toNat) ?_ ?_
  · exact ⟨c.toNat, f.toNat, bs, by simp only [put_at, Nat.reduceEqDiff, reduceIte, s0], by simp only [put_at, Nat.reduceEqDiff, reduceIte, s1], by simp only [put_at, Nat.reduceEqDiff, reduceIte, s2],
      by simp only [put_at, Nat.reduceEqDiff, reduceIte, s1]; rw [Int.toNat_of_nonneg (by omega)], by omega, hl, (set_same hg).symm, rfl⟩
  rintro ⟨tm', g'⟩ ⟨n, p, bs', t0, t1, t2, t7, hp, hl', hg', hs⟩
  simp only at t0 t1 t2 t7 hg'
  subst hg'
  have hw2 : IntKind.i64.wrap (f + c) = f + c := IntWalk.i64_in _ ⟨by omega, by omega⟩
  have hgs := get_set_same (g := g) a (.cells (bs'.map .bool) own)
  cases n with
  | zero =>
    have hlt : ¬ ((p : Int) < f + c) := by omega
    rw [n70_15_eq, c2_seq]
    rw [n70_16_eq, c2_seq]
    rw [n70_17_eq]
    repeat first | refine vK_i (by (simp only [zz1, zz2, zz3, zz4, zz5, zz6, zz7, zz8, zz9, zz10, zz11, zz12, zz13, zz14, fa, blen, Nat.reduceEqDiff, reduceIte, decide_true, decide_false, Bool.not_true, Bool.not_false, Nat.zero_add, Nat.add_zero, t0, t1, t2, t7, hw2, hlt]) <;> rfl) ?_
    repeat first | rw [then_normal] | rw [then_ret] | rw [then_exit] | rw [exit_normal] | rw [exit_ret] | rw [round_normal] | rw [round_exit] | rw [round_ret] | (rw [exit_exit]; simp only [Nat.reduceEqDiff, reduceIte])
    rw [n70_18_eq]
    refine ifB_f (by (simp only [zz1, zz2, zz3, zz4, zz5, zz6, zz7, zz8, zz9, zz10, zz11, zz12, zz13, zz14, fa, blen, Nat.reduceEqDiff, reduceIte, decide_true, decide_false, Bool.not_true, Bool.not_false, Nat.zero_add, Nat.add_zero, t0, t1, t2, t7, hw2, hlt]) <;> rfl) ?_
    rw [n70_20_eq, c2_exit]
    repeat first | rw [then_normal] | rw [then_ret] | rw [then_exit] | rw [exit_normal] | rw [exit_ret] | rw [round_normal] | rw [round_exit] | rw [round_ret] | (rw [exit_exit]; simp only [Nat.reduceEqDiff, reduceIte])
    rw [n70_33_eq, c2_seq]
    rw [n70_34_eq]
    skip
    repeat first | rw [then_normal] | rw [then_ret] | rw [then_exit] | rw [exit_normal] | rw [exit_ret] | rw [round_normal] | rw [round_exit] | rw [round_ret] | (rw [exit_exit]; simp only [Nat.reduceEqDiff, reduceIte])
    rw [n70_35_eq, c2_ret]
    repeat first | rw [then_normal] | rw [then_ret] | rw [then_exit] | rw [exit_normal] | rw [exit_ret] | rw [round_normal] | rw [round_exit] | rw [round_ret] | (rw [exit_exit]; simp only [Nat.reduceEqDiff, reduceIte])
    exact hend _ _ true _ _ rfl (by simp only [put_at, Nat.reduceEqDiff, reduceIte]) ⟨by rw [hr, hs]; rfl, by rw [hr, hs]; rfl⟩
  | succ n =>
    have hlt : (p : Int) < f + c := by omega
    have hp128 : p < 128 := by omega
    by_cases hb : bs'.getD p false = true
    · have hs' : reachL c.toNat f.toNat bs = (false, bs') := by rw [hs, reachL, if_pos hb]
      rw [n70_15_eq, c2_seq]
      rw [n70_16_eq, c2_seq]
      rw [n70_17_eq]
      repeat first | refine vK_i (by simp only [put_at, Nat.reduceEqDiff, reduceIte, nilCheck_ptr, t0, t7]; exact ix_slice a p 128 _ hp128) ?_ | refine vK_i (load_bool hgs (by omega)) ?_ | refine gK_i (store_bool hgs ho (by omega)) ?_ | refine vK_i (by (simp only [zz1, zz2, zz3, zz4, zz5, zz6, zz7, zz8, zz9, zz10, zz11, zz12, zz13, zz14, fa, blen, Nat.reduceEqDiff, reduceIte, decide_true, decide_false, Bool.not_true, Bool.not_false, Nat.zero_add, Nat.add_zero, t0, t1, t2, t7, hw2, hlt, hb]) <;> rfl) ?_
      repeat first | rw [then_normal] | rw [then_ret] | rw [then_exit] | rw [exit_normal] | rw [exit_ret] | rw [round_normal] | rw [round_exit] | rw [round_ret] | (rw [exit_exit]; simp only [Nat.reduceEqDiff, reduceIte])
      rw [n70_18_eq]
      refine ifB_t (by (simp only [zz1, zz2, zz3, zz4, zz5, zz6, zz7, zz8, zz9, zz10, zz11, zz12, zz13, zz14, fa, blen, Nat.reduceEqDiff, reduceIte, decide_true, decide_false, Bool.not_true, Bool.not_false, Nat.zero_add, Nat.add_zero, t0, t1, t2, t7, hw2, hlt, hb]) <;> rfl) ?_
      rw [n70_19_eq, c2_skip]
      repeat first | rw [then_normal] | rw [then_ret] | rw [then_exit] | rw [exit_normal] | rw [exit_ret] | rw [round_normal] | rw [round_exit] | rw [round_ret] | (rw [exit_exit]; simp only [Nat.reduceEqDiff, reduceIte])
      rw [n70_21_eq, c2_seq]
      rw [n70_22_eq, c2_block]
      rw [n70_23_eq, c2_seq]
      rw [n70_24_eq, c2_seq]
      rw [n70_25_eq]
      repeat first | refine vK_i (by simp only [put_at, Nat.reduceEqDiff, reduceIte, nilCheck_ptr, t0, t7]; exact ix_slice a p 128 _ hp128) ?_ | refine vK_i (load_bool hgs (by omega)) ?_ | refine gK_i (store_bool hgs ho (by omega)) ?_ | refine vK_i (by (simp only [zz1, zz2, zz3, zz4, zz5, zz6, zz7, zz8, zz9, zz10, zz11, zz12, zz13, zz14, fa, blen, Nat.reduceEqDiff, reduceIte, decide_true, decide_false, Bool.not_true, Bool.not_false, Nat.zero_add, Nat.add_zero, t0, t1, t2, t7, hw2, hlt, hb]) <;> rfl) ?_
      repeat first | rw [then_normal] | rw [then_ret] | rw [then_exit] | rw [exit_normal] | rw [exit_ret] | rw [round_normal] | rw [round_exit] | rw [round_ret] | (rw [exit_exit]; simp only [Nat.reduceEqDiff, reduceIte])
      rw [n70_26_eq]
      refine ifB_t (by (simp only [zz1, zz2, zz3, zz4, zz5, zz6, zz7, zz8, zz9, zz10, zz11, zz12, zz13, zz14, fa, blen, Nat.reduceEqDiff, reduceIte, decide_true, decide_false, Bool.not_true, Bool.not_false, Nat.zero_add, Nat.add_zero, t0, t1, t2, t7, hw2, hlt, hb]) <;> rfl) ?_
      rw [n70_27_eq, c2_seq]
      rw [n70_28_eq]
      repeat first | refine vK_i (by simp only [put_at, Nat.reduceEqDiff, reduceIte, nilCheck_ptr, t0, t7]; exact ix_slice a p 128 _ hp128) ?_ | refine vK_i (load_bool hgs (by omega)) ?_ | refine gK_i (store_bool hgs ho (by omega)) ?_
      repeat first | rw [then_normal] | rw [then_ret] | rw [then_exit] | rw [exit_normal] | rw [exit_ret] | rw [round_normal] | rw [round_exit] | rw [round_ret] | (rw [exit_exit]; simp only [Nat.reduceEqDiff, reduceIte])
      rw [n70_29_eq, c2_ret]
      repeat first | rw [then_normal] | rw [then_ret] | rw [then_exit] | rw [exit_normal] | rw [exit_ret] | rw [round_normal] | rw [round_exit] | rw [round_ret] | (rw [exit_exit]; simp only [Nat.reduceEqDiff, reduceIte])
      exact hend _ _ false _ _ rfl (by simp only [put_at, Nat.reduceEqDiff, reduceIte]) ⟨by rw [hr, hs'], by rw [hr, hs']⟩
    · have hb' : bs'.getD p false = false := by simpa using hb
      have hw3 : IntKind.i64.wrap ((p : Int) + 1) = ((p + 1 : Nat) : Int) := by rw [IntWalk.i64_in _ ⟨by omega, by omega⟩]; rfl
      rw [n70_15_eq, c2_seq]
      rw [n70_16_eq, c2_seq]
      rw [n70_17_eq]
      repeat first | refine vK_i (by simp only [put_at, Nat.reduceEqDiff, reduceIte, nilCheck_ptr, t0, t7]; exact ix_slice a p 128 _ hp128) ?_ | refine vK_i (load_bool hgs (by omega)) ?_ | refine gK_i (store_bool hgs ho (by omega)) ?_ | refine vK_i (by (simp only [zz1, zz2, zz3, zz4, zz5, zz6, zz7, zz8, zz9, zz10, zz11, zz12, zz13, zz14, fa, blen, Nat.reduceEqDiff, reduceIte, decide_true, decide_false, Bool.not_true, Bool.not_false, Nat.zero_add, Nat.add_zero, t0, t1, t2, t7, hw2, hlt, hb', hw3]) <;> rfl) ?_
      repeat first | rw [then_normal] | rw [then_ret] | rw [then_exit] | rw [exit_normal] | rw [exit_ret] | rw [round_normal] | rw [round_exit] | rw [round_ret] | (rw [exit_exit]; simp only [Nat.reduceEqDiff, reduceIte])
      rw [n70_18_eq]
      refine ifB_t (by (simp only [zz1, zz2, zz3, zz4, zz5, zz6, zz7, zz8, zz9, zz10, zz11, zz12, zz13, zz14, fa, blen, Nat.reduceEqDiff, reduceIte, decide_true, decide_false, Bool.not_true, Bool.not_false, Nat.zero_add, Nat.add_zero, t0, t1, t2, t7, hw2, hlt, hb', hw3]) <;> rfl) ?_
      rw [n70_19_eq, c2_skip]
      repeat first | rw [then_normal] | rw [then_ret] | rw [then_exit] | rw [exit_normal] | rw [exit_ret] | rw [round_normal] | rw [round_exit] | rw [round_ret] | (rw [exit_exit]; simp only [Nat.reduceEqDiff, reduceIte])
      rw [n70_21_eq, c2_seq]
      rw [n70_22_eq, c2_block]
      rw [n70_23_eq, c2_seq]
      rw [n70_24_eq, c2_seq]
      rw [n70_25_eq]
      repeat first | refine vK_i (by simp only [put_at, Nat.reduceEqDiff, reduceIte, nilCheck_ptr, t0, t7]; exact ix_slice a p 128 _ hp128) ?_ | refine vK_i (load_bool hgs (by omega)) ?_ | refine gK_i (store_bool hgs ho (by omega)) ?_ | refine vK_i (by (simp only [zz1, zz2, zz3, zz4, zz5, zz6, zz7, zz8, zz9, zz10, zz11, zz12, zz13, zz14, fa, blen, Nat.reduceEqDiff, reduceIte, decide_true, decide_false, Bool.not_true, Bool.not_false, Nat.zero_add, Nat.add_zero, t0, t1, t2, t7, hw2, hlt, hb', hw3]) <;> rfl) ?_
      repeat first | rw [then_normal] | rw [then_ret] | rw [then_exit] | rw [exit_normal] | rw [exit_ret] | rw [round_normal] | rw [round_exit] | rw [round_ret] | (rw [exit_exit]; simp only [Nat.reduceEqDiff, reduceIte])
      rw [n70_26_eq]
      refine ifB_f (by (simp only [zz1, zz2, zz3, zz4, zz5, zz6, zz7, zz8, zz9, zz10, zz11, zz12, zz13, zz14, fa, blen, Nat.reduceEqDiff, reduceIte, decide_true, decide_false, Bool.not_true, Bool.not_false, Nat.zero_add, Nat.add_zero, t0, t1, t2, t7, hw2, hlt, hb', hw3]) <;> rfl) ?_
      rw [n70_30_eq, c2_skip]
      repeat first | rw [then_normal] | rw [then_ret] | rw [then_exit] | rw [exit_normal] | rw [exit_ret] | rw [round_normal] | rw [round_exit] | rw [round_ret] | (rw [exit_exit]; simp only [Nat.reduceEqDiff, reduceIte])
      rw [n70_31_eq]
      repeat first | refine vK_i (by simp only [put_at, Nat.reduceEqDiff, reduceIte, nilCheck_ptr, t0, t7]; exact ix_slice a p 128 _ hp128) ?_ | refine vK_i (load_bool hgs (by omega)) ?_ | refine gK_i (store_bool hgs ho (by omega)) ?_ | refine vK_i (by (simp only [zz1, zz2, zz3, zz4, zz5, zz6, zz7, zz8, zz9, zz10, zz11, zz12, zz13, zz14, fa, blen, Nat.reduceEqDiff, reduceIte, decide_true, decide_false, Bool.not_true, Bool.not_false, Nat.zero_add, Nat.add_zero, t0, t1, t2, t7, hw2, hlt, hb', hw3]) <;> rfl) ?_ | refine gK_i (by (simp only [zz1, zz2, zz3, zz4, zz5, zz6, zz7, zz8, zz9, zz10, zz11, zz12, zz13, zz14, fa, blen, Nat.reduceEqDiff, reduceIte, decide_true, decide_false, Bool.not_true, Bool.not_false, Nat.zero_add, Nat.add_zero, t0, t1, t2, t7, hw2, hlt, hb', hw3]) <;> rfl) ?_
      repeat first | rw [then_normal] | rw [then_ret] | rw [then_exit] | rw [exit_normal] | rw [exit_ret] | rw [round_normal] | rw [round_exit] | rw [round_ret] | (rw [exit_exit]; simp only [Nat.reduceEqDiff, reduceIte])
      rw [n70_32_eq]
      repeat first | refine vK_i (by simp only [put_at, Nat.reduceEqDiff, reduceIte, nilCheck_ptr, t0, t7]; exact ix_slice a p 128 _ hp128) ?_ | refine vK_i (load_bool hgs (by omega)) ?_ | refine gK_i (store_bool hgs ho (by omega)) ?_ | refine vK_i (by (simp only [zz1, zz2, zz3, zz4, zz5, zz6, zz7, zz8, zz9, zz10, zz11, zz12, zz13, zz14, fa, blen, Nat.reduceEqDiff, reduceIte, decide_true, decide_false, Bool.not_true, Bool.not_false, Nat.zero_add, Nat.add_zero, t0, t1, t2, t7, hw2, hlt, hb', hw3]) <;> rfl) ?_
      repeat first | rw [then_normal] | rw [then_ret] | rw [then_exit] | rw [exit_normal] | rw [exit_ret] | rw [round_normal] | rw [round_exit] | rw [round_ret] | (rw [exit_exit]; simp only [Nat.reduceEqDiff, reduceIte])
      refine ⟨⟨n, p + 1, bs'.set p true, by simp only [put_at, Nat.reduceEqDiff, reduceIte, t0], by simp only [put_at, Nat.reduceEqDiff, reduceIte, t1], by simp only [put_at, Nat.reduceEqDiff, reduceIte, t2], by simp only [put_at, Nat.reduceEqDiff, reduceIte], by omega, by simp [hl'], set_set _ _ _, ?_⟩, ?_⟩
      · rw [hs, reachL, if_neg hb]
      · simp only [put_at, Nat.reduceEqDiff, reduceIte, t7]
        have e1 : f + c - (p : Int) = ((n + 1 : Nat) : Int) := by omega
        have e2 : f + c - ((p + 1 : Nat) : Int) = (n : Int) := by omega
        rw [e1, e2]
        omega

end Go.Proofs.Ytaofgdibpbpalaa
