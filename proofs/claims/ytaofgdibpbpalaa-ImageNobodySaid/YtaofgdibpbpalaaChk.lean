/-
  image.Check: what it tells of every image.
-/
import Derived.Test.YtaofgdibpbpalaaChkA
namespace Go.Proofs.Ytaofgdibpbpalaa
open Go.ChangeShapes Go.WideShapes Go.ChangeAt Go.RowKit Go.Lm
set_option linter.unusedSimpArgs false
variable {C : CallSem}

set_option maxRecDepth 1000000
/-! parapet/image.Check (99 slots) -/
noncomputable def n41_0 : Code := subC [] (bodyC Try.prog 41)
noncomputable def n41_1 : Code := subC [0] (bodyC Try.prog 41)
noncomputable def n41_2 : Code := subC [1] (bodyC Try.prog 41)
noncomputable def n41_3 : Code := subC [1, 0] (bodyC Try.prog 41)
noncomputable def n41_4 : Code := subC [1, 0, 0] (bodyC Try.prog 41)
noncomputable def n41_5 : Code := subC [1, 0, 1] (bodyC Try.prog 41)
noncomputable def n41_6 : Code := subC [1, 0, 1, 0] (bodyC Try.prog 41)
noncomputable def n41_7 : Code := subC [1, 0, 1, 0, 0] (bodyC Try.prog 41)
noncomputable def n41_8 : Code := subC [1, 0, 1, 0, 1] (bodyC Try.prog 41)
noncomputable def n41_9 : Code := subC [1, 0, 1, 1] (bodyC Try.prog 41)
noncomputable def n41_10 : Code := subC [1, 1] (bodyC Try.prog 41)
noncomputable def n41_11 : Code := subC [1, 1, 0] (bodyC Try.prog 41)
noncomputable def n41_12 : Code := subC [1, 1, 1] (bodyC Try.prog 41)
noncomputable def n41_13 : Code := subC [1, 1, 1, 0] (bodyC Try.prog 41)
noncomputable def n41_14 : Code := subC [1, 1, 1, 1] (bodyC Try.prog 41)
noncomputable def n41_15 : Code := subC [1, 1, 1, 1, 0] (bodyC Try.prog 41)
noncomputable def n41_16 : Code := subC [1, 1, 1, 1, 0, 0] (bodyC Try.prog 41)
noncomputable def n41_17 : Code := subC [1, 1, 1, 1, 0, 1] (bodyC Try.prog 41)
noncomputable def n41_18 : Code := subC [1, 1, 1, 1, 0, 1, 0] (bodyC Try.prog 41)
noncomputable def n41_19 : Code := subC [1, 1, 1, 1, 0, 1, 0, 0] (bodyC Try.prog 41)
noncomputable def n41_20 : Code := subC [1, 1, 1, 1, 0, 1, 0, 0, 0] (bodyC Try.prog 41)
noncomputable def n41_21 : Code := subC [1, 1, 1, 1, 0, 1, 0, 0, 1] (bodyC Try.prog 41)
noncomputable def n41_22 : Code := subC [1, 1, 1, 1, 0, 1, 0, 0, 1, 0] (bodyC Try.prog 41)
noncomputable def n41_23 : Code := subC [1, 1, 1, 1, 0, 1, 0, 0, 1, 0, 0] (bodyC Try.prog 41)
noncomputable def n41_24 : Code := subC [1, 1, 1, 1, 0, 1, 0, 0, 1, 0, 1] (bodyC Try.prog 41)
noncomputable def n41_25 : Code := subC [1, 1, 1, 1, 0, 1, 0, 0, 1, 1] (bodyC Try.prog 41)
noncomputable def n41_26 : Code := subC [1, 1, 1, 1, 0, 1, 0, 0, 1, 1, 0] (bodyC Try.prog 41)
noncomputable def n41_27 : Code := subC [1, 1, 1, 1, 0, 1, 0, 0, 1, 1, 0, 0] (bodyC Try.prog 41)
noncomputable def n41_28 : Code := subC [1, 1, 1, 1, 0, 1, 0, 0, 1, 1, 0, 0, 0] (bodyC Try.prog 41)
noncomputable def n41_29 : Code := subC [1, 1, 1, 1, 0, 1, 0, 0, 1, 1, 0, 0, 1] (bodyC Try.prog 41)
noncomputable def n41_30 : Code := subC [1, 1, 1, 1, 0, 1, 0, 0, 1, 1, 0, 0, 1, 0] (bodyC Try.prog 41)
noncomputable def n41_31 : Code := subC [1, 1, 1, 1, 0, 1, 0, 0, 1, 1, 0, 0, 1, 0, 0] (bodyC Try.prog 41)
noncomputable def n41_32 : Code := subC [1, 1, 1, 1, 0, 1, 0, 0, 1, 1, 0, 0, 1, 0, 1] (bodyC Try.prog 41)
noncomputable def n41_33 : Code := subC [1, 1, 1, 1, 0, 1, 0, 0, 1, 1, 0, 0, 1, 0, 1, 0] (bodyC Try.prog 41)
noncomputable def n41_34 : Code := subC [1, 1, 1, 1, 0, 1, 0, 0, 1, 1, 0, 0, 1, 0, 1, 0, 0] (bodyC Try.prog 41)
noncomputable def n41_35 : Code := subC [1, 1, 1, 1, 0, 1, 0, 0, 1, 1, 0, 0, 1, 0, 1, 0, 1] (bodyC Try.prog 41)
noncomputable def n41_36 : Code := subC [1, 1, 1, 1, 0, 1, 0, 0, 1, 1, 0, 0, 1, 0, 1, 1] (bodyC Try.prog 41)
noncomputable def n41_37 : Code := subC [1, 1, 1, 1, 0, 1, 0, 0, 1, 1, 0, 0, 1, 1] (bodyC Try.prog 41)
noncomputable def n41_38 : Code := subC [1, 1, 1, 1, 0, 1, 0, 0, 1, 1, 1] (bodyC Try.prog 41)
noncomputable def n41_39 : Code := subC [1, 1, 1, 1, 1] (bodyC Try.prog 41)
noncomputable def n41_40 : Code := subC [1, 1, 1, 1, 1, 0] (bodyC Try.prog 41)
noncomputable def n41_41 : Code := subC [1, 1, 1, 1, 1, 0, 0] (bodyC Try.prog 41)
noncomputable def n41_42 : Code := subC [1, 1, 1, 1, 1, 0, 1] (bodyC Try.prog 41)
noncomputable def n41_43 : Code := subC [1, 1, 1, 1, 1, 0, 1, 0] (bodyC Try.prog 41)
noncomputable def n41_44 : Code := subC [1, 1, 1, 1, 1, 0, 1, 0, 0] (bodyC Try.prog 41)
noncomputable def n41_45 : Code := subC [1, 1, 1, 1, 1, 0, 1, 0, 0, 0] (bodyC Try.prog 41)
noncomputable def n41_46 : Code := subC [1, 1, 1, 1, 1, 0, 1, 0, 0, 1] (bodyC Try.prog 41)
noncomputable def n41_47 : Code := subC [1, 1, 1, 1, 1, 0, 1, 0, 0, 1, 0] (bodyC Try.prog 41)
noncomputable def n41_48 : Code := subC [1, 1, 1, 1, 1, 0, 1, 0, 0, 1, 0, 0] (bodyC Try.prog 41)
noncomputable def n41_49 : Code := subC [1, 1, 1, 1, 1, 0, 1, 0, 0, 1, 0, 1] (bodyC Try.prog 41)
noncomputable def n41_50 : Code := subC [1, 1, 1, 1, 1, 0, 1, 0, 0, 1, 1] (bodyC Try.prog 41)
noncomputable def n41_51 : Code := subC [1, 1, 1, 1, 1, 0, 1, 0, 0, 1, 1, 0] (bodyC Try.prog 41)
noncomputable def n41_52 : Code := subC [1, 1, 1, 1, 1, 0, 1, 0, 0, 1, 1, 0, 0] (bodyC Try.prog 41)
noncomputable def n41_53 : Code := subC [1, 1, 1, 1, 1, 0, 1, 0, 0, 1, 1, 0, 0, 0] (bodyC Try.prog 41)
noncomputable def n41_54 : Code := subC [1, 1, 1, 1, 1, 0, 1, 0, 0, 1, 1, 0, 0, 1] (bodyC Try.prog 41)
noncomputable def n41_55 : Code := subC [1, 1, 1, 1, 1, 0, 1, 0, 0, 1, 1, 0, 0, 1, 0] (bodyC Try.prog 41)
noncomputable def n41_56 : Code := subC [1, 1, 1, 1, 1, 0, 1, 0, 0, 1, 1, 0, 0, 1, 1] (bodyC Try.prog 41)
noncomputable def n41_57 : Code := subC [1, 1, 1, 1, 1, 0, 1, 0, 0, 1, 1, 0, 0, 1, 1, 0] (bodyC Try.prog 41)
noncomputable def n41_58 : Code := subC [1, 1, 1, 1, 1, 0, 1, 0, 0, 1, 1, 0, 0, 1, 1, 0, 0] (bodyC Try.prog 41)
noncomputable def n41_59 : Code := subC [1, 1, 1, 1, 1, 0, 1, 0, 0, 1, 1, 0, 0, 1, 1, 0, 1] (bodyC Try.prog 41)
noncomputable def n41_60 : Code := subC [1, 1, 1, 1, 1, 0, 1, 0, 0, 1, 1, 0, 0, 1, 1, 1] (bodyC Try.prog 41)
noncomputable def n41_61 : Code := subC [1, 1, 1, 1, 1, 0, 1, 0, 0, 1, 1, 1] (bodyC Try.prog 41)
noncomputable def n41_62 : Code := subC [1, 1, 1, 1, 1, 1] (bodyC Try.prog 41)
noncomputable def n41_63 : Code := subC [1, 1, 1, 1, 1, 1, 0] (bodyC Try.prog 41)
noncomputable def n41_64 : Code := subC [1, 1, 1, 1, 1, 1, 0, 0] (bodyC Try.prog 41)
noncomputable def n41_65 : Code := subC [1, 1, 1, 1, 1, 1, 0, 1] (bodyC Try.prog 41)
noncomputable def n41_66 : Code := subC [1, 1, 1, 1, 1, 1, 0, 1, 0] (bodyC Try.prog 41)
noncomputable def n41_67 : Code := subC [1, 1, 1, 1, 1, 1, 0, 1, 0, 0] (bodyC Try.prog 41)
noncomputable def n41_68 : Code := subC [1, 1, 1, 1, 1, 1, 0, 1, 0, 1] (bodyC Try.prog 41)
noncomputable def n41_69 : Code := subC [1, 1, 1, 1, 1, 1, 0, 1, 1] (bodyC Try.prog 41)
noncomputable def n41_70 : Code := subC [1, 1, 1, 1, 1, 1, 1] (bodyC Try.prog 41)
noncomputable def n41_71 : Code := subC [1, 1, 1, 1, 1, 1, 1, 0] (bodyC Try.prog 41)
noncomputable def n41_72 : Code := subC [1, 1, 1, 1, 1, 1, 1, 1] (bodyC Try.prog 41)
theorem n41_0_eq : n41_0 = .seq n41_1 n41_2 := nr (by kernel_rfl)
theorem n41_1_eq (K : LEx → LSt → Prop) (tm : Nat → LV) (g : LHeap) : code2 Try.prog C n41_1 ⟨tm, g⟩ K = (
    oK (newL (tm 0) g) fun t1 g =>
    K .normal ⟨(putL (putL tm (some 1) t1) (some 2) (.int .i64 (0))), g⟩) := nr (by kernel_rfl)
theorem n41_2_eq : n41_2 = .seq n41_3 n41_10 := nr (by kernel_rfl)
theorem n41_3_eq : n41_3 = .seq n41_4 n41_5 := nr (by kernel_rfl)
theorem n41_4_eq (K : LEx → LSt → Prop) (tm : Nat → LV) (g : LHeap) : code2 Try.prog C n41_4 ⟨tm, g⟩ K = (
    vK (fieldAddrL 1 (tm 1)) fun t9 =>
    vK (loadV none t9 g) fun t10 =>
    oK (builtinL Try.prog .len [24] [t10] g) fun t11 g =>
    vK (binL Try.prog .gtr 3 true t11 (.int .i64 (16))) fun t12 =>
    gd t12 false g (fun K => vK (fieldAddrL 2 (tm 1)) fun v => K v g) fun t14 g =>
    gd t12 false g (fun K => vK (loadV none t14 g) fun v => K v g) fun t15 g =>
    gd t12 false g (fun K => oK (builtinL Try.prog .len [25] [t15] g) K) fun t16 g =>
    gd t12 false g (fun K => vK (binL Try.prog .gtr 3 true t16 (.int .i64 (16))) fun v => K v g) fun t17 g =>
    vK (pickL t12 (.bool true) t17) fun t18 =>
    gd t18 false g (fun K => vK (fieldAddrL 0 (tm 1)) fun v => K v g) fun t20 g =>
    gd t18 false g (fun K => vK (loadV none t20 g) fun v => K v g) fun t21 g =>
    gd t18 false g (fun K => vK (binL Try.prog .lss 3 true t21 (.int .i64 (0))) fun v => K v g) fun t22 g =>
    vK (pickL t18 (.bool true) t22) fun t23 =>
    gd t23 false g (fun K => vK (fieldAddrL 0 (tm 1)) fun v => K v g) fun t25 g =>
    gd t23 false g (fun K => vK (loadV none t25 g) fun v => K v g) fun t26 g =>
    gd t23 false g (fun K => vK (binL Try.prog .gtr 3 true t26 (.int .i64 (65535))) fun v => K v g) fun t27 g =>
    vK (pickL t23 (.bool true) t27) fun t28 =>
    gd t28 false g (fun K => vK (fieldAddrL 0 (tm 1)) fun v => K v g) fun t30 g =>
    gd t28 false g (fun K => vK (loadV none t30 g) fun v => K v g) fun t31 g =>
    gd t28 false g (fun K => vK (binL Try.prog .rem 3 true t31 (.int .i64 (4))) fun v => K v g) fun t32 g =>
    gd t28 false g (fun K => vK (binL Try.prog .neq 3 true t32 (.int .i64 (0))) fun v => K v g) fun t33 g =>
    vK (pickL t28 (.bool true) t33) fun t34 =>
    K .normal ⟨(putL (putL (putL (putL (putL (putL (putL (putL (putL (putL (putL (putL (putL (putL (putL (putL (putL (putL (putL (putL (putL (putL (putL (putL (putL (putL tm (some 9) t9) (some 10) t10) (some 11) t11) (some 12) t12) (some 13) t12) (some 14) t14) (some 15) t15) (some 16) t16) (some 17) t17) (some 18) t18) (some 19) t18) (some 20) t20) (some 21) t21) (some 22) t22) (some 23) t23) (some 24) t23) (some 25) t25) (some 26) t26) (some 27) t27) (some 28) t28) (some 29) t28) (some 30) t30) (some 31) t31) (some 32) t32) (some 33) t33) (some 34) t34), g⟩) := nr (by kernel_rfl)
theorem n41_5_eq (K : LEx → LSt → Prop) (tm : Nat → LV) (g : LHeap) : code2 Try.prog C n41_5 ⟨tm, g⟩ K = ifB (tm 34) (code2 Try.prog C n41_6 ⟨tm, g⟩ K) (code2 Try.prog C n41_9 ⟨tm, g⟩ K) := nr (by kernel_rfl)
theorem n41_6_eq : n41_6 = .seq n41_7 n41_8 := nr (by kernel_rfl)
theorem n41_7_eq (K : LEx → LSt → Prop) (tm : Nat → LV) (g : LHeap) : code2 Try.prog C n41_7 ⟨tm, g⟩ K = (
    K .normal ⟨(putL tm (some 2) (.int .i64 (230))), g⟩) := nr (by kernel_rfl)
theorem n41_8_eq : n41_8 = .ret := nr (by kernel_rfl)
theorem n41_9_eq : n41_9 = .skip := nr (by kernel_rfl)
theorem n41_10_eq : n41_10 = .seq n41_11 n41_12 := nr (by kernel_rfl)
theorem n41_11_eq (K : LEx → LSt → Prop) (tm : Nat → LV) (g : LHeap) : code2 Try.prog C n41_11 ⟨tm, g⟩ K = (
    oK (newL (.agg [(.bool false), (.bool false), (.bool false), (.bool false), (.bool false), (.bool false), (.bool false), (.bool false), (.bool false), (.bool false), (.bool false), (.bool false), (.bool false), (.bool false), (.bool false), (.bool false), (.bool false), (.bool false), (.bool false), (.bool false), (.bool false), (.bool false), (.bool false), (.bool false), (.bool false), (.bool false), (.bool false), (.bool false), (.bool false), (.bool false), (.bool false), (.bool false), (.bool false), (.bool false), (.bool false), (.bool false), (.bool false), (.bool false), (.bool false), (.bool false), (.bool false), (.bool false), (.bool false), (.bool false), (.bool false), (.bool false), (.bool false), (.bool false), (.bool false), (.bool false), (.bool false), (.bool false), (.bool false), (.bool false), (.bool false), (.bool false), (.bool false), (.bool false), (.bool false), (.bool false), (.bool false), (.bool false), (.bool false), (.bool false), (.bool false), (.bool false), (.bool false), (.bool false), (.bool false), (.bool false), (.bool false), (.bool false), (.bool false), (.bool false), (.bool false), (.bool false), (.bool false), (.bool false), (.bool false), (.bool false), (.bool false), (.bool false), (.bool false), (.bool false), (.bool false), (.bool false), (.bool false), (.bool false), (.bool false), (.bool false), (.bool false), (.bool false), (.bool false), (.bool false), (.bool false), (.bool false), (.bool false), (.bool false), (.bool false), (.bool false), (.bool false), (.bool false), (.bool false), (.bool false), (.bool false), (.bool false), (.bool false), (.bool false), (.bool false), (.bool false), (.bool false), (.bool false), (.bool false), (.bool false), (.bool false), (.bool false), (.bool false), (.bool false), (.bool false), (.bool false), (.bool false), (.bool false), (.bool false), (.bool false), (.bool false), (.bool false), (.bool false), (.bool false)]) g) fun t3 g =>
    K .normal ⟨(putL tm (some 3) t3), g⟩) := nr (by kernel_rfl)
theorem n41_12_eq : n41_12 = .seq n41_13 n41_14 := nr (by kernel_rfl)
theorem n41_13_eq (K : LEx → LSt → Prop) (tm : Nat → LV) (g : LHeap) : code2 Try.prog C n41_13 ⟨tm, g⟩ K = (
    vK (fieldAddrL 1 (tm 1)) fun t35 =>
    vK (loadV none t35 g) fun t36 =>
    oK (builtinL Try.prog .len [24] [t36] g) fun t37 g =>
    vK (fieldAddrL 2 (tm 1)) fun t38 =>
    vK (loadV none t38 g) fun t39 =>
    oK (builtinL Try.prog .len [25] [t39] g) fun t40 g =>
    vK (binL Try.prog .add 3 false t37 t40) fun t41 =>
    vK (binL Try.prog .mul 3 true (.int .i64 (4)) t41) fun t42 =>
    vK (binL Try.prog .add 3 true (.int .i64 (10)) t42) fun t43 =>
    K .normal ⟨(putL (putL (putL (putL (putL (putL (putL (putL (putL (putL tm (some 35) t35) (some 36) t36) (some 37) t37) (some 38) t38) (some 39) t39) (some 40) t40) (some 41) t41) (some 42) t42) (some 43) t43) (some 4) t43), g⟩) := nr (by kernel_rfl)
theorem n41_14_eq : n41_14 = .seq n41_15 n41_39 := nr (by kernel_rfl)
theorem n41_15_eq : n41_15 = .seq n41_16 n41_17 := nr (by kernel_rfl)
theorem n41_16_eq (K : LEx → LSt → Prop) (tm : Nat → LV) (g : LHeap) : code2 Try.prog C n41_16 ⟨tm, g⟩ K = (
    vK (fieldAddrL 1 (tm 1)) fun t44 =>
    vK (loadV none t44 g) fun t45 =>
    oK (builtinL Try.prog .len [24] [t45] g) fun t46 g =>
    K .normal ⟨(putL (putL (putL (putL tm (some 44) t44) (some 45) t45) (some 46) t46) (some 47) (.int .i64 (0))), g⟩) := nr (by kernel_rfl)
theorem n41_17_eq : n41_17 = .block 0 n41_18 := nr (by kernel_rfl)
theorem n41_18_eq : n41_18 = .loop n41_19 := nr (by kernel_rfl)
theorem n41_19_eq : n41_19 = .seq n41_20 n41_21 := nr (by kernel_rfl)
theorem n41_20_eq (K : LEx → LSt → Prop) (tm : Nat → LV) (g : LHeap) : code2 Try.prog C n41_20 ⟨tm, g⟩ K = (
    vK (binL Try.prog .lss 3 false (tm 47) (tm 46)) fun t48 =>
    K .normal ⟨(putL tm (some 48) t48), g⟩) := nr (by kernel_rfl)
theorem n41_21_eq : n41_21 = .seq n41_22 n41_25 := nr (by kernel_rfl)
theorem n41_22_eq (K : LEx → LSt → Prop) (tm : Nat → LV) (g : LHeap) : code2 Try.prog C n41_22 ⟨tm, g⟩ K = ifB (tm 48) (code2 Try.prog C n41_23 ⟨tm, g⟩ K) (code2 Try.prog C n41_24 ⟨tm, g⟩ K) := nr (by kernel_rfl)
theorem n41_23_eq : n41_23 = .skip := nr (by kernel_rfl)
theorem n41_24_eq : n41_24 = .exit 0 := nr (by kernel_rfl)
theorem n41_25_eq : n41_25 = .seq n41_26 n41_38 := nr (by kernel_rfl)
theorem n41_26_eq : n41_26 = .block 1 n41_27 := nr (by kernel_rfl)
theorem n41_27_eq : n41_27 = .seq n41_28 n41_29 := nr (by kernel_rfl)
theorem n41_28_eq (K : LEx → LSt → Prop) (tm : Nat → LV) (g : LHeap) : code2 Try.prog C n41_28 ⟨tm, g⟩ K = (
    vK (ixAddrL none 2 (tm 45) (tm 47)) fun t49 =>
    vK (loadV (some 2) t49 g) fun t50 =>
    oK (newL (.agg [(.int .i64 (0)), .nils]) g) fun t6 g =>
    gK (storeV 2 t6 t50 g) fun g =>
    K .normal ⟨(putL (putL (putL tm (some 49) t49) (some 50) t50) (some 6) t6), g⟩) := nr (by kernel_rfl)
theorem n41_29_eq : n41_29 = .seq n41_30 n41_37 := nr (by kernel_rfl)
theorem n41_30_eq : n41_30 = .seq n41_31 n41_32 := nr (by kernel_rfl)
theorem n41_31_eq (K : LEx → LSt → Prop) (tm : Nat → LV) (g : LHeap) : code2 Try.prog C n41_31 ⟨tm, g⟩ K = (
    vK (fieldAddrL 0 (tm 6)) fun t51 =>
    vK (loadV none t51 g) fun t52 =>
    vK (binL Try.prog .lss 3 true t52 (.int .i64 (0))) fun t53 =>
    gdV t53 false (fieldAddrL 0 (tm 6)) fun t55 =>
    gdV t53 false (loadV none t55 g) fun t56 =>
    gdV t53 false (binL Try.prog .rem 3 true t56 (.int .i64 (256))) fun t57 =>
    gdV t53 false (binL Try.prog .neq 3 true t57 (.int .i64 (0))) fun t58 =>
    vK (pickL t53 (.bool true) t58) fun t59 =>
    gdV t59 false (fieldAddrL 1 (tm 6)) fun t61 =>
    gdV t59 false (loadV none t61 g) fun t62 =>
    gdV t59 false (lenL Try.prog 23 t62 g) fun t63 =>
    gdV t59 false (binL Try.prog .gtr 3 true t63 (.int .i64 (16384))) fun t64 =>
    vK (pickL t59 (.bool true) t64) fun t65 =>
    gdV t65 false (fieldAddrL 0 (tm 6)) fun t67 =>
    gdD t65 false (loadV none t67 g) (fun t68 =>
    gdV t65 false (binL Try.prog .quo 3 true t68 (.int .i64 (256))) fun t69 =>
    gdV t65 false (fieldAddrL 1 (tm 6)) fun t70 =>
    gdV t65 false (loadV none t70 g) fun t71 =>
    gdV t65 false (lenL Try.prog 23 t71 g) fun t72 =>
    ((gd t65 false g (fun K => C 69 [t72] g K) fun t73 g =>
    ((loadV none t67 g) = some t68 ∧ 
    ((gd t65 false g (fun K => C 68 [(tm 3), t69, t73] g K) fun t74 g =>
    
    gdV t65 false (unL .not t74) fun t75 =>
    vK (pickL t65 (.bool true) t75) fun t76 =>
    K .normal ⟨(putL (putL (putL (putL (putL (putL (putL (putL (putL (putL (putL (putL (putL (putL (putL (putL (putL (putL (putL (putL (putL (putL (putL (putL (putL (putL tm (some 51) t51) (some 52) t52) (some 53) t53) (some 54) t53) (some 55) t55) (some 56) t56) (some 57) t57) (some 58) t58) (some 59) t59) (some 60) t59) (some 61) t61) (some 62) t62) (some 63) t63) (some 64) t64) (some 65) t65) (some 66) t65) (some 67) t67) (some 68) t68) (some 69) t69) (some 70) t70) (some 71) t71) (some 72) t72) (some 73) t73) (some 74) t74) (some 75) t75) (some 76) t76), g⟩) ∧ True))) ∧ True)) (
    gdV t65 false (binL Try.prog .quo 3 true undefL (.int .i64 (256))) fun t69 =>
    gdV t65 false (fieldAddrL 1 (tm 6)) fun t70 =>
    gdV t65 false (loadV none t70 g) fun t71 =>
    gdV t65 false (lenL Try.prog 23 t71 g) fun t72 =>
    ((gd t65 false g (fun K => C 69 [t72] g K) fun t73 g =>
    
    ((gd t65 false g (fun K => C 68 [(tm 3), t69, t73] g K) fun t74 g =>
    
    gdV t65 false (unL .not t74) fun t75 =>
    vK (pickL t65 (.bool true) t75) fun t76 =>
    K .normal ⟨(putL (putL (putL (putL (putL (putL (putL (putL (putL (putL (putL (putL (putL (putL (putL (putL (putL (putL (putL (putL (putL (putL (putL (putL (putL (putL tm (some 51) t51) (some 52) t52) (some 53) t53) (some 54) t53) (some 55) t55) (some 56) t56) (some 57) t57) (some 58) t58) (some 59) t59) (some 60) t59) (some 61) t61) (some 62) t62) (some 63) t63) (some 64) t64) (some 65) t65) (some 66) t65) (some 67) t67) (some 68) undefL) (some 69) t69) (some 70) t70) (some 71) t71) (some 72) t72) (some 73) t73) (some 74) t74) (some 75) t75) (some 76) t76), g⟩) ∧ True)) ∧ True))) := nr (by kernel_rfl)
theorem n41_32_eq (K : LEx → LSt → Prop) (tm : Nat → LV) (g : LHeap) : code2 Try.prog C n41_32 ⟨tm, g⟩ K = ifB (tm 76) (code2 Try.prog C n41_33 ⟨tm, g⟩ K) (code2 Try.prog C n41_36 ⟨tm, g⟩ K) := nr (by kernel_rfl)
theorem n41_33_eq : n41_33 = .seq n41_34 n41_35 := nr (by kernel_rfl)
theorem n41_34_eq (K : LEx → LSt → Prop) (tm : Nat → LV) (g : LHeap) : code2 Try.prog C n41_34 ⟨tm, g⟩ K = (
    K .normal ⟨(putL tm (some 2) (.int .i64 (230))), g⟩) := nr (by kernel_rfl)
theorem n41_35_eq : n41_35 = .ret := nr (by kernel_rfl)
theorem n41_36_eq : n41_36 = .skip := nr (by kernel_rfl)
theorem n41_37_eq (K : LEx → LSt → Prop) (tm : Nat → LV) (g : LHeap) : code2 Try.prog C n41_37 ⟨tm, g⟩ K = (
    vK (fieldAddrL 1 (tm 6)) fun t78 =>
    vK (loadV none t78 g) fun t79 =>
    oK (builtinL Try.prog .len [23] [t79] g) fun t80 g =>
    vK (binL Try.prog .add 3 false (tm 4) t80) fun t81 =>
    K .normal ⟨(putL (putL (putL (putL (putL (putL tm (some 77) (tm 4)) (some 78) t78) (some 79) t79) (some 80) t80) (some 81) t81) (some 4) t81), g⟩) := nr (by kernel_rfl)
theorem n41_38_eq (K : LEx → LSt → Prop) (tm : Nat → LV) (g : LHeap) : code2 Try.prog C n41_38 ⟨tm, g⟩ K = (
    vK (binL Try.prog .add 3 true (tm 47) (.int .i64 (1))) fun t82 =>
    K .normal ⟨(putL (putL tm (some 82) t82) (some 47) t82), g⟩) := nr (by kernel_rfl)
theorem n41_39_eq : n41_39 = .seq n41_40 n41_62 := nr (by kernel_rfl)
theorem n41_40_eq : n41_40 = .seq n41_41 n41_42 := nr (by kernel_rfl)
theorem n41_41_eq (K : LEx → LSt → Prop) (tm : Nat → LV) (g : LHeap) : code2 Try.prog C n41_41 ⟨tm, g⟩ K = (
    vK (fieldAddrL 2 (tm 1)) fun t83 =>
    vK (loadV none t83 g) fun t84 =>
    oK (builtinL Try.prog .len [25] [t84] g) fun t85 g =>
    K .normal ⟨(putL (putL (putL (putL tm (some 83) t83) (some 84) t84) (some 85) t85) (some 86) (.int .i64 (0))), g⟩) := nr (by kernel_rfl)
theorem n41_42_eq : n41_42 = .block 2 n41_43 := nr (by kernel_rfl)
theorem n41_43_eq : n41_43 = .loop n41_44 := nr (by kernel_rfl)
theorem n41_44_eq : n41_44 = .seq n41_45 n41_46 := nr (by kernel_rfl)
theorem n41_45_eq (K : LEx → LSt → Prop) (tm : Nat → LV) (g : LHeap) : code2 Try.prog C n41_45 ⟨tm, g⟩ K = (
    vK (binL Try.prog .lss 3 false (tm 86) (tm 85)) fun t87 =>
    K .normal ⟨(putL tm (some 87) t87), g⟩) := nr (by kernel_rfl)
theorem n41_46_eq : n41_46 = .seq n41_47 n41_50 := nr (by kernel_rfl)
theorem n41_47_eq (K : LEx → LSt → Prop) (tm : Nat → LV) (g : LHeap) : code2 Try.prog C n41_47 ⟨tm, g⟩ K = ifB (tm 87) (code2 Try.prog C n41_48 ⟨tm, g⟩ K) (code2 Try.prog C n41_49 ⟨tm, g⟩ K) := nr (by kernel_rfl)
theorem n41_48_eq : n41_48 = .skip := nr (by kernel_rfl)
theorem n41_49_eq : n41_49 = .exit 2 := nr (by kernel_rfl)
theorem n41_50_eq : n41_50 = .seq n41_51 n41_61 := nr (by kernel_rfl)
theorem n41_51_eq : n41_51 = .block 3 n41_52 := nr (by kernel_rfl)
theorem n41_52_eq : n41_52 = .seq n41_53 n41_54 := nr (by kernel_rfl)
theorem n41_53_eq (K : LEx → LSt → Prop) (tm : Nat → LV) (g : LHeap) : code2 Try.prog C n41_53 ⟨tm, g⟩ K = (
    vK (ixAddrL none 2 (tm 84) (tm 86)) fun t88 =>
    vK (loadV (some 2) t88 g) fun t89 =>
    oK (newL (.agg [(.int .i64 (0)), (.int .i64 (0))]) g) fun t8 g =>
    gK (storeV 2 t8 t89 g) fun g =>
    K .normal ⟨(putL (putL (putL tm (some 88) t88) (some 89) t89) (some 8) t8), g⟩) := nr (by kernel_rfl)
theorem n41_54_eq : n41_54 = .seq n41_55 n41_56 := nr (by kernel_rfl)
theorem n41_55_eq (K : LEx → LSt → Prop) (tm : Nat → LV) (g : LHeap) : code2 Try.prog C n41_55 ⟨tm, g⟩ K = (
    vK (fieldAddrL 0 (tm 8)) fun t90 =>
    vK (loadV none t90 g) fun t91 =>
    vK (fieldAddrL 1 (tm 8)) fun t92 =>
    vK (loadV none t92 g) fun t93 =>
    C 68 [(tm 3), t91, t93] g fun t94 g =>
    vK (unL .not t94) fun t95 =>
    K .normal ⟨(putL (putL (putL (putL (putL (putL tm (some 90) t90) (some 91) t91) (some 92) t92) (some 93) t93) (some 94) t94) (some 95) t95), g⟩) := nr (by kernel_rfl)
theorem n41_56_eq (K : LEx → LSt → Prop) (tm : Nat → LV) (g : LHeap) : code2 Try.prog C n41_56 ⟨tm, g⟩ K = ifB (tm 95) (code2 Try.prog C n41_57 ⟨tm, g⟩ K) (code2 Try.prog C n41_60 ⟨tm, g⟩ K) := nr (by kernel_rfl)
theorem n41_57_eq : n41_57 = .seq n41_58 n41_59 := nr (by kernel_rfl)
theorem n41_58_eq (K : LEx → LSt → Prop) (tm : Nat → LV) (g : LHeap) : code2 Try.prog C n41_58 ⟨tm, g⟩ K = (
    K .normal ⟨(putL tm (some 2) (.int .i64 (230))), g⟩) := nr (by kernel_rfl)
theorem n41_59_eq : n41_59 = .ret := nr (by kernel_rfl)
theorem n41_60_eq : n41_60 = .skip := nr (by kernel_rfl)
theorem n41_61_eq (K : LEx → LSt → Prop) (tm : Nat → LV) (g : LHeap) : code2 Try.prog C n41_61 ⟨tm, g⟩ K = (
    vK (binL Try.prog .add 3 true (tm 86) (.int .i64 (1))) fun t96 =>
    K .normal ⟨(putL (putL tm (some 96) t96) (some 86) t96), g⟩) := nr (by kernel_rfl)
theorem n41_62_eq : n41_62 = .seq n41_63 n41_70 := nr (by kernel_rfl)
theorem n41_63_eq : n41_63 = .seq n41_64 n41_65 := nr (by kernel_rfl)
theorem n41_64_eq (K : LEx → LSt → Prop) (tm : Nat → LV) (g : LHeap) : code2 Try.prog C n41_64 ⟨tm, g⟩ K = (
    vK (binL Try.prog .gtr 3 true (tm 4) (.int .i64 (16384))) fun t98 =>
    K .normal ⟨(putL (putL tm (some 97) (tm 4)) (some 98) t98), g⟩) := nr (by kernel_rfl)
theorem n41_65_eq (K : LEx → LSt → Prop) (tm : Nat → LV) (g : LHeap) : code2 Try.prog C n41_65 ⟨tm, g⟩ K = ifB (tm 98) (code2 Try.prog C n41_66 ⟨tm, g⟩ K) (code2 Try.prog C n41_69 ⟨tm, g⟩ K) := nr (by kernel_rfl)
theorem n41_66_eq : n41_66 = .seq n41_67 n41_68 := nr (by kernel_rfl)
theorem n41_67_eq (K : LEx → LSt → Prop) (tm : Nat → LV) (g : LHeap) : code2 Try.prog C n41_67 ⟨tm, g⟩ K = (
    K .normal ⟨(putL tm (some 2) (.int .i64 (230))), g⟩) := nr (by kernel_rfl)
theorem n41_68_eq : n41_68 = .ret := nr (by kernel_rfl)
theorem n41_69_eq : n41_69 = .skip := nr (by kernel_rfl)
theorem n41_70_eq : n41_70 = .seq n41_71 n41_72 := nr (by kernel_rfl)
theorem n41_71_eq (K : LEx → LSt → Prop) (tm : Nat → LV) (g : LHeap) : code2 Try.prog C n41_71 ⟨tm, g⟩ K = (
    K .normal ⟨(putL tm (some 2) (.int .i64 (0))), g⟩) := nr (by kernel_rfl)
theorem n41_72_eq : n41_72 = .ret := nr (by kernel_rfl)

set_option maxRecDepth 5000
set_option maxRecDepth 1000000 in
theorem fine41 : fineF Try.prog 41 = true := by kernel_rfl
theorem res41 (tm : Nat → LV) (g : LHeap) : resL Try.prog tm g Try.f41.results.toList = some [tm 2] := by kernel_rfl
theorem len41 : 1 ≤ Try.f41.ntmps := Nat.le_of_ble_eq_true (by kernel_rfl)
set_option maxHeartbeats 4000000 in
theorem check_any {g : LHeap} {SV ZV : LV} {segs : List (Int × LV)} {zs : List (Int × Int)} (en : Int) (hs : RowsAt g SV (segs.map segRow)) (hz : RowsAt g ZV (zs.map zeroRow)) (hb : ∀ s ∈ segs, IsB s.2) :
    Ok Try.prog 41 [.agg [i en, SV, ZV]] g fun v _ => v = i (checkN en segs zs) := by
  refine ok_fn Try.mixed Try.func41 fine41 len41 ?_
  rw [show bodyC Try.prog 41 = n41_0 from by kernel_rfl]
  have s0 : startL [.agg [i en, SV, ZV]] 0 = .agg [i en, SV, ZV] := rfl
  generalize startL [.agg [i en, SV, ZV]] = tm at s0
  have hend : ∀ (tm : Nat → LV) (g' : LHeap) (b : Int) (e : LEx) (K : LV → LHeap → Prop), e = .ret → tm 2 = i b → K (i b) g' → endL Try.prog Try.f41 K e ⟨tm, g'⟩ := by
    intro tm g' b e K he h hk
    subst he
    simp only [endL, res41, h]
    exact hk
  have cellSV : SV.cell = true := by rcases hs.2 with ⟨_, rfl | ⟨a, rfl⟩⟩ | ⟨a, cap, rfl, _⟩ <;> rfl
  have cellZV : ZV.cell = true := by rcases hz.2 with ⟨_, rfl | ⟨a, rfl⟩⟩ | ⟨a, cap, rfl, _⟩ <;> rfl
  have hcell : (LV.agg [i en, SV, ZV]).cellsOK = true := by
    simp only [LV.cellsOK, LV.cells, List.all_cons, List.all_nil, cellSV, cellZV, Bool.and_true]; rfl
  obtain ⟨G1, hG1, i1, low1, nx1⟩ : ∃ G1, newL (.agg [i en, SV, ZV]) g = some (.ptr g.next 0, G1) ∧ G1.get g.next = some (.cells [i en, SV, ZV] .ex) ∧ (∀ j, j < g.next → G1.get j = g.get j) ∧ G1.next = g.next + 1 := by
    refine ⟨g.alloc (.cells [i en, SV, ZV] .ex), by rw [newL, if_pos hcell]; rfl, by simp, fun j hj => ?_, rfl⟩
    rw [LHeap.get_alloc, if_neg (by omega)]
  have l0 : loadV none (.ptr g.next 0) G1 = some (i en) := by simp [loadV, i1]
  have l1 : loadV none (.ptr g.next 1) G1 = some SV := by simp [loadV, i1]
  have l2 : loadV none (.ptr g.next 2) G1 = some ZV := by simp [loadV, i1]
  have ls : ∀ h, lenL Try.prog 24 SV h = some (i segs.length) := fun h => by rw [len_rows u24 hs, List.length_map]
  have lz : ∀ h, lenL Try.prog 25 ZV h = some (i zs.length) := fun h => by rw [len_rows u25 hz, List.length_map]
  by_cases h1 : (16 : Int) < segs.length
  · have hr : checkN en segs zs = 230 := if_pos (.inl h1)
    rw [n41_0_eq, c2_seq]
    rw [n41_1_eq]
    repeat first | with_reducible refine oK_i (by (simp only [zz1, zz2, zz3, zz4, zz5, zz6, zz7, zz8, zz9, zz10, zz11, zz12, zz13, zz14, fa, blen, Nat.reduceEqDiff, reduceIte, decide_true, decide_false, Bool.not_true, Bool.not_false, Nat.zero_add, Nat.add_zero, binL_rem4, binL_rem256, binL_quo256, s0, hG1, l0, l1, l2, ls, lz, Option.map_some, h1]) <;> rfl) ?_
    repeat first | rw [then_normal] | rw [then_ret] | rw [then_exit] | rw [exit_normal] | rw [exit_ret] | rw [round_normal] | rw [round_exit] | rw [round_ret] | (rw [exit_exit]; simp only [Nat.reduceEqDiff, reduceIte])
    rw [n41_2_eq, c2_seq]
    rw [n41_3_eq, c2_seq]
    rw [n41_4_eq]
    repeat first | with_reducible refine vK_i (by (simp only [zz1, zz2, zz3, zz4, zz5, zz6, zz7, zz8, zz9, zz10, zz11, zz12, zz13, zz14, fa, blen, Nat.reduceEqDiff, reduceIte, decide_true, decide_false, Bool.not_true, Bool.not_false, Nat.zero_add, Nat.add_zero, binL_rem4, binL_rem256, binL_quo256, s0, hG1, l0, l1, l2, ls, lz, Option.map_some, h1]) <;> rfl) ?_ | with_reducible refine oK_i (by (simp only [zz1, zz2, zz3, zz4, zz5, zz6, zz7, zz8, zz9, zz10, zz11, zz12, zz13, zz14, fa, blen, Nat.reduceEqDiff, reduceIte, decide_true, decide_false, Bool.not_true, Bool.not_false, Nat.zero_add, Nat.add_zero, binL_rem4, binL_rem256, binL_quo256, s0, hG1, l0, l1, l2, ls, lz, Option.map_some, h1]) <;> rfl) ?_ | with_reducible refine gdv_i rfl (by (simp only [zz1, zz2, zz3, zz4, zz5, zz6, zz7, zz8, zz9, zz10, zz11, zz12, zz13, zz14, fa, blen, Nat.reduceEqDiff, reduceIte, decide_true, decide_false, Bool.not_true, Bool.not_false, Nat.zero_add, Nat.add_zero, binL_rem4, binL_rem256, binL_quo256, s0, hG1, l0, l1, l2, ls, lz, Option.map_some, h1]) <;> rfl) ?_ | with_reducible refine gdo_i rfl (by (simp only [zz1, zz2, zz3, zz4, zz5, zz6, zz7, zz8, zz9, zz10, zz11, zz12, zz13, zz14, fa, blen, Nat.reduceEqDiff, reduceIte, decide_true, decide_false, Bool.not_true, Bool.not_false, Nat.zero_add, Nat.add_zero, binL_rem4, binL_rem256, binL_quo256, s0, hG1, l0, l1, l2, ls, lz, Option.map_some, h1]) <;> rfl) ?_ | with_reducible refine gdk_i rfl ?_ | with_reducible refine gds_i rfl ?_ | with_reducible refine gds_u ?_ | rw [gd_true] | rw [gd_false']
    repeat first | rw [then_normal] | rw [then_ret] | rw [then_exit] | rw [exit_normal] | rw [exit_ret] | rw [round_normal] | rw [round_exit] | rw [round_ret] | (rw [exit_exit]; simp only [Nat.reduceEqDiff, reduceIte])
    rw [n41_5_eq]
    refine ifB_t (by (simp only [zz1, zz2, zz3, zz4, zz5, zz6, zz7, zz8, zz9, zz10, zz11, zz12, zz13, zz14, fa, blen, Nat.reduceEqDiff, reduceIte, decide_true, decide_false, Bool.not_true, Bool.not_false, Nat.zero_add, Nat.add_zero, binL_rem4, binL_rem256, binL_quo256, s0, hG1, l0, l1, l2, ls, lz, Option.map_some, h1]) <;> rfl) ?_
    rw [n41_6_eq, c2_seq]
    rw [n41_7_eq]
    skip
    repeat first | rw [then_normal] | rw [then_ret] | rw [then_exit] | rw [exit_normal] | rw [exit_ret] | rw [round_normal] | rw [round_exit] | rw [round_ret] | (rw [exit_exit]; simp only [Nat.reduceEqDiff, reduceIte])
    rw [n41_8_eq, c2_ret]
    repeat first | rw [then_normal] | rw [then_ret] | rw [then_exit] | rw [exit_normal] | rw [exit_ret] | rw [round_normal] | rw [round_exit] | rw [round_ret] | (rw [exit_exit]; simp only [Nat.reduceEqDiff, reduceIte])
    exact hend _ _ 230 _ _ rfl (by simp only [put_at, Nat.reduceEqDiff, reduceIte]) (by rw [hr])
  by_cases h2 : (16 : Int) < zs.length
  · have hr : checkN en segs zs = 230 := if_pos (.inr (.inl h2))
    rw [n41_0_eq, c2_seq]
    rw [n41_1_eq]
    repeat first | with_reducible refine oK_i (by (simp only [zz1, zz2, zz3, zz4, zz5, zz6, zz7, zz8, zz9, zz10, zz11, zz12, zz13, zz14, fa, blen, Nat.reduceEqDiff, reduceIte, decide_true, decide_false, Bool.not_true, Bool.not_false, Nat.zero_add, Nat.add_zero, binL_rem4, binL_rem256, binL_quo256, s0, hG1, l0, l1, l2, ls, lz, Option.map_some, h1, h2]) <;> rfl) ?_
    repeat first | rw [then_normal] | rw [then_ret] | rw [then_exit] | rw [exit_normal] | rw [exit_ret] | rw [round_normal] | rw [round_exit] | rw [round_ret] | (rw [exit_exit]; simp only [Nat.reduceEqDiff, reduceIte])
    rw [n41_2_eq, c2_seq]
    rw [n41_3_eq, c2_seq]
    rw [n41_4_eq]
    repeat first | with_reducible refine vK_i (by (simp only [zz1, zz2, zz3, zz4, zz5, zz6, zz7, zz8, zz9, zz10, zz11, zz12, zz13, zz14, fa, blen, Nat.reduceEqDiff, reduceIte, decide_true, decide_false, Bool.not_true, Bool.not_false, Nat.zero_add, Nat.add_zero, binL_rem4, binL_rem256, binL_quo256, s0, hG1, l0, l1, l2, ls, lz, Option.map_some, h1, h2]) <;> rfl) ?_ | with_reducible refine oK_i (by (simp only [zz1, zz2, zz3, zz4, zz5, zz6, zz7, zz8, zz9, zz10, zz11, zz12, zz13, zz14, fa, blen, Nat.reduceEqDiff, reduceIte, decide_true, decide_false, Bool.not_true, Bool.not_false, Nat.zero_add, Nat.add_zero, binL_rem4, binL_rem256, binL_quo256, s0, hG1, l0, l1, l2, ls, lz, Option.map_some, h1, h2]) <;> rfl) ?_ | with_reducible refine gdv_i rfl (by (simp only [zz1, zz2, zz3, zz4, zz5, zz6, zz7, zz8, zz9, zz10, zz11, zz12, zz13, zz14, fa, blen, Nat.reduceEqDiff, reduceIte, decide_true, decide_false, Bool.not_true, Bool.not_false, Nat.zero_add, Nat.add_zero, binL_rem4, binL_rem256, binL_quo256, s0, hG1, l0, l1, l2, ls, lz, Option.map_some, h1, h2]) <;> rfl) ?_ | with_reducible refine gdo_i rfl (by (simp only [zz1, zz2, zz3, zz4, zz5, zz6, zz7, zz8, zz9, zz10, zz11, zz12, zz13, zz14, fa, blen, Nat.reduceEqDiff, reduceIte, decide_true, decide_false, Bool.not_true, Bool.not_false, Nat.zero_add, Nat.add_zero, binL_rem4, binL_rem256, binL_quo256, s0, hG1, l0, l1, l2, ls, lz, Option.map_some, h1, h2]) <;> rfl) ?_ | with_reducible refine gdk_i rfl ?_ | with_reducible refine gds_i rfl ?_ | with_reducible refine gds_u ?_ | rw [gd_true] | rw [gd_false']
    repeat first | rw [then_normal] | rw [then_ret] | rw [then_exit] | rw [exit_normal] | rw [exit_ret] | rw [round_normal] | rw [round_exit] | rw [round_ret] | (rw [exit_exit]; simp only [Nat.reduceEqDiff, reduceIte])
    rw [n41_5_eq]
    refine ifB_t (by (simp only [zz1, zz2, zz3, zz4, zz5, zz6, zz7, zz8, zz9, zz10, zz11, zz12, zz13, zz14, fa, blen, Nat.reduceEqDiff, reduceIte, decide_true, decide_false, Bool.not_true, Bool.not_false, Nat.zero_add, Nat.add_zero, binL_rem4, binL_rem256, binL_quo256, s0, hG1, l0, l1, l2, ls, lz, Option.map_some, h1, h2]) <;> rfl) ?_
    rw [n41_6_eq, c2_seq]
    rw [n41_7_eq]
    skip
    repeat first | rw [then_normal] | rw [then_ret] | rw [then_exit] | rw [exit_normal] | rw [exit_ret] | rw [round_normal] | rw [round_exit] | rw [round_ret] | (rw [exit_exit]; simp only [Nat.reduceEqDiff, reduceIte])
    rw [n41_8_eq, c2_ret]
    repeat first | rw [then_normal] | rw [then_ret] | rw [then_exit] | rw [exit_normal] | rw [exit_ret] | rw [round_normal] | rw [round_exit] | rw [round_ret] | (rw [exit_exit]; simp only [Nat.reduceEqDiff, reduceIte])
    exact hend _ _ 230 _ _ rfl (by simp only [put_at, Nat.reduceEqDiff, reduceIte]) (by rw [hr])
  by_cases h3 : en < 0
  · have hr : checkN en segs zs = 230 := if_pos (.inr (.inr (.inl h3)))
    rw [n41_0_eq, c2_seq]
    rw [n41_1_eq]
    repeat first | with_reducible refine oK_i (by (simp only [zz1, zz2, zz3, zz4, zz5, zz6, zz7, zz8, zz9, zz10, zz11, zz12, zz13, zz14, fa, blen, Nat.reduceEqDiff, reduceIte, decide_true, decide_false, Bool.not_true, Bool.not_false, Nat.zero_add, Nat.add_zero, binL_rem4, binL_rem256, binL_quo256, s0, hG1, l0, l1, l2, ls, lz, Option.map_some, h1, h2, h3]) <;> rfl) ?_
    repeat first | rw [then_normal] | rw [then_ret] | rw [then_exit] | rw [exit_normal] | rw [exit_ret] | rw [round_normal] | rw [round_exit] | rw [round_ret] | (rw [exit_exit]; simp only [Nat.reduceEqDiff, reduceIte])
    rw [n41_2_eq, c2_seq]
    rw [n41_3_eq, c2_seq]
    rw [n41_4_eq]
    repeat first | with_reducible refine vK_i (by (simp only [zz1, zz2, zz3, zz4, zz5, zz6, zz7, zz8, zz9, zz10, zz11, zz12, zz13, zz14, fa, blen, Nat.reduceEqDiff, reduceIte, decide_true, decide_false, Bool.not_true, Bool.not_false, Nat.zero_add, Nat.add_zero, binL_rem4, binL_rem256, binL_quo256, s0, hG1, l0, l1, l2, ls, lz, Option.map_some, h1, h2, h3]) <;> rfl) ?_ | with_reducible refine oK_i (by (simp only [zz1, zz2, zz3, zz4, zz5, zz6, zz7, zz8, zz9, zz10, zz11, zz12, zz13, zz14, fa, blen, Nat.reduceEqDiff, reduceIte, decide_true, decide_false, Bool.not_true, Bool.not_false, Nat.zero_add, Nat.add_zero, binL_rem4, binL_rem256, binL_quo256, s0, hG1, l0, l1, l2, ls, lz, Option.map_some, h1, h2, h3]) <;> rfl) ?_ | with_reducible refine gdv_i rfl (by (simp only [zz1, zz2, zz3, zz4, zz5, zz6, zz7, zz8, zz9, zz10, zz11, zz12, zz13, zz14, fa, blen, Nat.reduceEqDiff, reduceIte, decide_true, decide_false, Bool.not_true, Bool.not_false, Nat.zero_add, Nat.add_zero, binL_rem4, binL_rem256, binL_quo256, s0, hG1, l0, l1, l2, ls, lz, Option.map_some, h1, h2, h3]) <;> rfl) ?_ | with_reducible refine gdo_i rfl (by (simp only [zz1, zz2, zz3, zz4, zz5, zz6, zz7, zz8, zz9, zz10, zz11, zz12, zz13, zz14, fa, blen, Nat.reduceEqDiff, reduceIte, decide_true, decide_false, Bool.not_true, Bool.not_false, Nat.zero_add, Nat.add_zero, binL_rem4, binL_rem256, binL_quo256, s0, hG1, l0, l1, l2, ls, lz, Option.map_some, h1, h2, h3]) <;> rfl) ?_ | with_reducible refine gdk_i rfl ?_ | with_reducible refine gds_i rfl ?_ | with_reducible refine gds_u ?_ | rw [gd_true] | rw [gd_false']
    repeat first | rw [then_normal] | rw [then_ret] | rw [then_exit] | rw [exit_normal] | rw [exit_ret] | rw [round_normal] | rw [round_exit] | rw [round_ret] | (rw [exit_exit]; simp only [Nat.reduceEqDiff, reduceIte])
    rw [n41_5_eq]
    refine ifB_t (by (simp only [zz1, zz2, zz3, zz4, zz5, zz6, zz7, zz8, zz9, zz10, zz11, zz12, zz13, zz14, fa, blen, Nat.reduceEqDiff, reduceIte, decide_true, decide_false, Bool.not_true, Bool.not_false, Nat.zero_add, Nat.add_zero, binL_rem4, binL_rem256, binL_quo256, s0, hG1, l0, l1, l2, ls, lz, Option.map_some, h1, h2, h3]) <;> rfl) ?_
    rw [n41_6_eq, c2_seq]
    rw [n41_7_eq]
    skip
    repeat first | rw [then_normal] | rw [then_ret] | rw [then_exit] | rw [exit_normal] | rw [exit_ret] | rw [round_normal] | rw [round_exit] | rw [round_ret] | (rw [exit_exit]; simp only [Nat.reduceEqDiff, reduceIte])
    rw [n41_8_eq, c2_ret]
    repeat first | rw [then_normal] | rw [then_ret] | rw [then_exit] | rw [exit_normal] | rw [exit_ret] | rw [round_normal] | rw [round_exit] | rw [round_ret] | (rw [exit_exit]; simp only [Nat.reduceEqDiff, reduceIte])
    exact hend _ _ 230 _ _ rfl (by simp only [put_at, Nat.reduceEqDiff, reduceIte]) (by rw [hr])
  by_cases h4 : 65535 < en
  · have hr : checkN en segs zs = 230 := if_pos (.inr (.inr (.inr (.inl h4))))
    rw [n41_0_eq, c2_seq]
    rw [n41_1_eq]
    repeat first | with_reducible refine oK_i (by (simp only [zz1, zz2, zz3, zz4, zz5, zz6, zz7, zz8, zz9, zz10, zz11, zz12, zz13, zz14, fa, blen, Nat.reduceEqDiff, reduceIte, decide_true, decide_false, Bool.not_true, Bool.not_false, Nat.zero_add, Nat.add_zero, binL_rem4, binL_rem256, binL_quo256, s0, hG1, l0, l1, l2, ls, lz, Option.map_some, h1, h2, h3, h4]) <;> rfl) ?_
    repeat first | rw [then_normal] | rw [then_ret] | rw [then_exit] | rw [exit_normal] | rw [exit_ret] | rw [round_normal] | rw [round_exit] | rw [round_ret] | (rw [exit_exit]; simp only [Nat.reduceEqDiff, reduceIte])
    rw [n41_2_eq, c2_seq]
    rw [n41_3_eq, c2_seq]
    rw [n41_4_eq]
    repeat first | with_reducible refine vK_i (by (simp only [zz1, zz2, zz3, zz4, zz5, zz6, zz7, zz8, zz9, zz10, zz11, zz12, zz13, zz14, fa, blen, Nat.reduceEqDiff, reduceIte, decide_true, decide_false, Bool.not_true, Bool.not_false, Nat.zero_add, Nat.add_zero, binL_rem4, binL_rem256, binL_quo256, s0, hG1, l0, l1, l2, ls, lz, Option.map_some, h1, h2, h3, h4]) <;> rfl) ?_ | with_reducible refine oK_i (by (simp only [zz1, zz2, zz3, zz4, zz5, zz6, zz7, zz8, zz9, zz10, zz11, zz12, zz13, zz14, fa, blen, Nat.reduceEqDiff, reduceIte, decide_true, decide_false, Bool.not_true, Bool.not_false, Nat.zero_add, Nat.add_zero, binL_rem4, binL_rem256, binL_quo256, s0, hG1, l0, l1, l2, ls, lz, Option.map_some, h1, h2, h3, h4]) <;> rfl) ?_ | with_reducible refine gdv_i rfl (by (simp only [zz1, zz2, zz3, zz4, zz5, zz6, zz7, zz8, zz9, zz10, zz11, zz12, zz13, zz14, fa, blen, Nat.reduceEqDiff, reduceIte, decide_true, decide_false, Bool.not_true, Bool.not_false, Nat.zero_add, Nat.add_zero, binL_rem4, binL_rem256, binL_quo256, s0, hG1, l0, l1, l2, ls, lz, Option.map_some, h1, h2, h3, h4]) <;> rfl) ?_ | with_reducible refine gdo_i rfl (by (simp only [zz1, zz2, zz3, zz4, zz5, zz6, zz7, zz8, zz9, zz10, zz11, zz12, zz13, zz14, fa, blen, Nat.reduceEqDiff, reduceIte, decide_true, decide_false, Bool.not_true, Bool.not_false, Nat.zero_add, Nat.add_zero, binL_rem4, binL_rem256, binL_quo256, s0, hG1, l0, l1, l2, ls, lz, Option.map_some, h1, h2, h3, h4]) <;> rfl) ?_ | with_reducible refine gdk_i rfl ?_ | with_reducible refine gds_i rfl ?_ | with_reducible refine gds_u ?_ | rw [gd_true] | rw [gd_false']
    repeat first | rw [then_normal] | rw [then_ret] | rw [then_exit] | rw [exit_normal] | rw [exit_ret] | rw [round_normal] | rw [round_exit] | rw [round_ret] | (rw [exit_exit]; simp only [Nat.reduceEqDiff, reduceIte])
    rw [n41_5_eq]
    refine ifB_t (by (simp only [zz1, zz2, zz3, zz4, zz5, zz6, zz7, zz8, zz9, zz10, zz11, zz12, zz13, zz14, fa, blen, Nat.reduceEqDiff, reduceIte, decide_true, decide_false, Bool.not_true, Bool.not_false, Nat.zero_add, Nat.add_zero, binL_rem4, binL_rem256, binL_quo256, s0, hG1, l0, l1, l2, ls, lz, Option.map_some, h1, h2, h3, h4]) <;> rfl) ?_
    rw [n41_6_eq, c2_seq]
    rw [n41_7_eq]
    skip
    repeat first | rw [then_normal] | rw [then_ret] | rw [then_exit] | rw [exit_normal] | rw [exit_ret] | rw [round_normal] | rw [round_exit] | rw [round_ret] | (rw [exit_exit]; simp only [Nat.reduceEqDiff, reduceIte])
    rw [n41_8_eq, c2_ret]
    repeat first | rw [then_normal] | rw [then_ret] | rw [then_exit] | rw [exit_normal] | rw [exit_ret] | rw [round_normal] | rw [round_exit] | rw [round_ret] | (rw [exit_exit]; simp only [Nat.reduceEqDiff, reduceIte])
    exact hend _ _ 230 _ _ rfl (by simp only [put_at, Nat.reduceEqDiff, reduceIte]) (by rw [hr])
  cases h5 : (en.tmod 4 == 0) with
  | false =>
    have hr : checkN en segs zs = 230 := if_pos (.inr (.inr (.inr (.inr (by simpa using h5)))))
    rw [n41_0_eq, c2_seq]
    rw [n41_1_eq]
    repeat first | with_reducible refine oK_i (by (simp only [zz1, zz2, zz3, zz4, zz5, zz6, zz7, zz8, zz9, zz10, zz11, zz12, zz13, zz14, fa, blen, Nat.reduceEqDiff, reduceIte, decide_true, decide_false, Bool.not_true, Bool.not_false, Nat.zero_add, Nat.add_zero, binL_rem4, binL_rem256, binL_quo256, s0, hG1, l0, l1, l2, ls, lz, Option.map_some, h1, h2, h3, h4, h5]) <;> rfl) ?_
    repeat first | rw [then_normal] | rw [then_ret] | rw [then_exit] | rw [exit_normal] | rw [exit_ret] | rw [round_normal] | rw [round_exit] | rw [round_ret] | (rw [exit_exit]; simp only [Nat.reduceEqDiff, reduceIte])
    rw [n41_2_eq, c2_seq]
    rw [n41_3_eq, c2_seq]
    rw [n41_4_eq]
    repeat first | with_reducible refine vK_i (by (simp only [zz1, zz2, zz3, zz4, zz5, zz6, zz7, zz8, zz9, zz10, zz11, zz12, zz13, zz14, fa, blen, Nat.reduceEqDiff, reduceIte, decide_true, decide_false, Bool.not_true, Bool.not_false, Nat.zero_add, Nat.add_zero, binL_rem4, binL_rem256, binL_quo256, s0, hG1, l0, l1, l2, ls, lz, Option.map_some, h1, h2, h3, h4, h5]) <;> rfl) ?_ | with_reducible refine oK_i (by (simp only [zz1, zz2, zz3, zz4, zz5, zz6, zz7, zz8, zz9, zz10, zz11, zz12, zz13, zz14, fa, blen, Nat.reduceEqDiff, reduceIte, decide_true, decide_false, Bool.not_true, Bool.not_false, Nat.zero_add, Nat.add_zero, binL_rem4, binL_rem256, binL_quo256, s0, hG1, l0, l1, l2, ls, lz, Option.map_some, h1, h2, h3, h4, h5]) <;> rfl) ?_ | with_reducible refine gdv_i rfl (by (simp only [zz1, zz2, zz3, zz4, zz5, zz6, zz7, zz8, zz9, zz10, zz11, zz12, zz13, zz14, fa, blen, Nat.reduceEqDiff, reduceIte, decide_true, decide_false, Bool.not_true, Bool.not_false, Nat.zero_add, Nat.add_zero, binL_rem4, binL_rem256, binL_quo256, s0, hG1, l0, l1, l2, ls, lz, Option.map_some, h1, h2, h3, h4, h5]) <;> rfl) ?_ | with_reducible refine gdo_i rfl (by (simp only [zz1, zz2, zz3, zz4, zz5, zz6, zz7, zz8, zz9, zz10, zz11, zz12, zz13, zz14, fa, blen, Nat.reduceEqDiff, reduceIte, decide_true, decide_false, Bool.not_true, Bool.not_false, Nat.zero_add, Nat.add_zero, binL_rem4, binL_rem256, binL_quo256, s0, hG1, l0, l1, l2, ls, lz, Option.map_some, h1, h2, h3, h4, h5]) <;> rfl) ?_ | with_reducible refine gdk_i rfl ?_ | with_reducible refine gds_i rfl ?_ | with_reducible refine gds_u ?_ | rw [gd_true] | rw [gd_false']
    repeat first | rw [then_normal] | rw [then_ret] | rw [then_exit] | rw [exit_normal] | rw [exit_ret] | rw [round_normal] | rw [round_exit] | rw [round_ret] | (rw [exit_exit]; simp only [Nat.reduceEqDiff, reduceIte])
    rw [n41_5_eq]
    refine ifB_t (by (simp only [zz1, zz2, zz3, zz4, zz5, zz6, zz7, zz8, zz9, zz10, zz11, zz12, zz13, zz14, fa, blen, Nat.reduceEqDiff, reduceIte, decide_true, decide_false, Bool.not_true, Bool.not_false, Nat.zero_add, Nat.add_zero, binL_rem4, binL_rem256, binL_quo256, s0, hG1, l0, l1, l2, ls, lz, Option.map_some, h1, h2, h3, h4, h5]) <;> rfl) ?_
    rw [n41_6_eq, c2_seq]
    rw [n41_7_eq]
    skip
    repeat first | rw [then_normal] | rw [then_ret] | rw [then_exit] | rw [exit_normal] | rw [exit_ret] | rw [round_normal] | rw [round_exit] | rw [round_ret] | (rw [exit_exit]; simp only [Nat.reduceEqDiff, reduceIte])
    rw [n41_8_eq, c2_ret]
    repeat first | rw [then_normal] | rw [then_ret] | rw [then_exit] | rw [exit_normal] | rw [exit_ret] | rw [round_normal] | rw [round_exit] | rw [round_ret] | (rw [exit_exit]; simp only [Nat.reduceEqDiff, reduceIte])
    exact hend _ _ 230 _ _ rfl (by simp only [put_at, Nat.reduceEqDiff, reduceIte]) (by rw [hr])
  | true =>
  have hr : checkN en segs zs = match chkSegs segs (List.replicate 128 false) with
      | none => 230
      | some bs => match chkZeros zs bs with
        | none => 230
        | some _ => if 16384 < headN segs.length zs.length + sumLen segs then 230 else 0 := by
    have h5' : en.tmod 4 = 0 := by simpa using h5
    exact if_neg (by intro hx; rcases hx with hx | hx | hx | hx | hx; exact h1 hx; exact h2 hx; exact h3 hx; exact h4 hx; exact hx h5')
  have hls : (segs.length : Int) ≤ 16 := by omega
  have hlz : (zs.length : Int) ≤ 16 := by omega
  obtain ⟨G2, hG2, HP⟩ : ∃ G2, newL (.agg [(.bool false), (.bool false), (.bool false), (.bool false), (.bool false), (.bool false), (.bool false), (.bool false), (.bool false), (.bool false), (.bool false), (.bool false), (.bool false), (.bool false), (.bool false), (.bool false), (.bool false), (.bool false), (.bool false), (.bool false), (.bool false), (.bool false), (.bool false), (.bool false), (.bool false), (.bool false), (.bool false), (.bool false), (.bool false), (.bool false), (.bool false), (.bool false), (.bool false), (.bool false), (.bool false), (.bool false), (.bool false), (.bool false), (.bool false), (.bool false), (.bool false), (.bool false), (.bool false), (.bool false), (.bool false), (.bool false), (.bool false), (.bool false), (.bool false), (.bool false), (.bool false), (.bool false), (.bool false), (.bool false), (.bool false), (.bool false), (.bool false), (.bool false), (.bool false), (.bool false), (.bool false), (.bool false), (.bool false), (.bool false), (.bool false), (.bool false), (.bool false), (.bool false), (.bool false), (.bool false), (.bool false), (.bool false), (.bool false), (.bool false), (.bool false), (.bool false), (.bool false), (.bool false), (.bool false), (.bool false), (.bool false), (.bool false), (.bool false), (.bool false), (.bool false), (.bool false), (.bool false), (.bool false), (.bool false), (.bool false), (.bool false), (.bool false), (.bool false), (.bool false), (.bool false), (.bool false), (.bool false), (.bool false), (.bool false), (.bool false), (.bool false), (.bool false), (.bool false), (.bool false), (.bool false), (.bool false), (.bool false), (.bool false), (.bool false), (.bool false), (.bool false), (.bool false), (.bool false), (.bool false), (.bool false), (.bool false), (.bool false), (.bool false), (.bool false), (.bool false), (.bool false), (.bool false), (.bool false), (.bool false), (.bool false), (.bool false), (.bool false), (.bool false)]) G1 = some (.ptr (g.next + 1) 0, G2) ∧ Hp g G2 [i en, SV, ZV] (List.replicate 128 false) := by
    refine ⟨G1.alloc (.cells ((List.replicate 128 false).map .bool) .ex), ?_, ?_, ?_, fun j hj => ?_, ?_⟩
    · rw [← nx1]; rfl
    · rw [LHeap.get_alloc, if_neg (by omega)]; exact i1
    · rw [LHeap.get_alloc, if_pos nx1.symm]
    · rw [LHeap.get_alloc, if_neg (by omega)]; exact low1 j hj
    · rw [LHeap.next_alloc]; omega
  obtain ⟨m0, m1, m2⟩ := HP.ld
  have a1 : IntKind.i64.wrap ((segs.length : Int) + zs.length) = segs.length + zs.length := IntWalk.i64_in _ ⟨by omega, by omega⟩
  have a2 : IntKind.i64.wrap (4 * ((segs.length : Int) + zs.length)) = 4 * (segs.length + zs.length) := IntWalk.i64_in _ ⟨by omega, by omega⟩
  have a3 : IntKind.i64.wrap (10 + 4 * ((segs.length : Int) + zs.length)) = headN segs.length zs.length := IntWalk.i64_in _ ⟨by omega, by omega⟩
  rw [n41_0_eq, c2_seq]
  rw [n41_1_eq]
  repeat first | with_reducible refine oK_i (by (simp only [zz1, zz2, zz3, zz4, zz5, zz6, zz7, zz8, zz9, zz10, zz11, zz12, zz13, zz14, fa, blen, Nat.reduceEqDiff, reduceIte, decide_true, decide_false, Bool.not_true, Bool.not_false, Nat.zero_add, Nat.add_zero, binL_rem4, binL_rem256, binL_quo256, s0, hG1, l0, l1, l2, ls, lz, Option.map_some, h1, h2, h3, h4, h5, hG2, m0, m1, m2, a1, a2, a3]) <;> rfl) ?_
  repeat first | rw [then_normal] | rw [then_ret] | rw [then_exit] | rw [exit_normal] | rw [exit_ret] | rw [round_normal] | rw [round_exit] | rw [round_ret] | (rw [exit_exit]; simp only [Nat.reduceEqDiff, reduceIte])
  rw [n41_2_eq, c2_seq]
  rw [n41_3_eq, c2_seq]
  rw [n41_4_eq]
  repeat first | with_reducible refine vK_i (by (simp only [zz1, zz2, zz3, zz4, zz5, zz6, zz7, zz8, zz9, zz10, zz11, zz12, zz13, zz14, fa, blen, Nat.reduceEqDiff, reduceIte, decide_true, decide_false, Bool.not_true, Bool.not_false, Nat.zero_add, Nat.add_zero, binL_rem4, binL_rem256, binL_quo256, s0, hG1, l0, l1, l2, ls, lz, Option.map_some, h1, h2, h3, h4, h5, hG2, m0, m1, m2, a1, a2, a3]) <;> rfl) ?_ | with_reducible refine oK_i (by (simp only [zz1, zz2, zz3, zz4, zz5, zz6, zz7, zz8, zz9, zz10, zz11, zz12, zz13, zz14, fa, blen, Nat.reduceEqDiff, reduceIte, decide_true, decide_false, Bool.not_true, Bool.not_false, Nat.zero_add, Nat.add_zero, binL_rem4, binL_rem256, binL_quo256, s0, hG1, l0, l1, l2, ls, lz, Option.map_some, h1, h2, h3, h4, h5, hG2, m0, m1, m2, a1, a2, a3]) <;> rfl) ?_ | with_reducible refine gdv_i rfl (by (simp only [zz1, zz2, zz3, zz4, zz5, zz6, zz7, zz8, zz9, zz10, zz11, zz12, zz13, zz14, fa, blen, Nat.reduceEqDiff, reduceIte, decide_true, decide_false, Bool.not_true, Bool.not_false, Nat.zero_add, Nat.add_zero, binL_rem4, binL_rem256, binL_quo256, s0, hG1, l0, l1, l2, ls, lz, Option.map_some, h1, h2, h3, h4, h5, hG2, m0, m1, m2, a1, a2, a3]) <;> rfl) ?_ | with_reducible refine gdo_i rfl (by (simp only [zz1, zz2, zz3, zz4, zz5, zz6, zz7, zz8, zz9, zz10, zz11, zz12, zz13, zz14, fa, blen, Nat.reduceEqDiff, reduceIte, decide_true, decide_false, Bool.not_true, Bool.not_false, Nat.zero_add, Nat.add_zero, binL_rem4, binL_rem256, binL_quo256, s0, hG1, l0, l1, l2, ls, lz, Option.map_some, h1, h2, h3, h4, h5, hG2, m0, m1, m2, a1, a2, a3]) <;> rfl) ?_ | with_reducible refine gdk_i rfl ?_ | with_reducible refine gds_i rfl ?_ | with_reducible refine gds_u ?_ | rw [gd_true] | rw [gd_false']
  repeat first | rw [then_normal] | rw [then_ret] | rw [then_exit] | rw [exit_normal] | rw [exit_ret] | rw [round_normal] | rw [round_exit] | rw [round_ret] | (rw [exit_exit]; simp only [Nat.reduceEqDiff, reduceIte])
  rw [n41_5_eq]
  refine ifB_f (by (simp only [zz1, zz2, zz3, zz4, zz5, zz6, zz7, zz8, zz9, zz10, zz11, zz12, zz13, zz14, fa, blen, Nat.reduceEqDiff, reduceIte, decide_true, decide_false, Bool.not_true, Bool.not_false, Nat.zero_add, Nat.add_zero, binL_rem4, binL_rem256, binL_quo256, s0, hG1, l0, l1, l2, ls, lz, Option.map_some, h1, h2, h3, h4, h5, hG2, m0, m1, m2, a1, a2, a3]) <;> rfl) ?_
  rw [n41_9_eq, c2_skip]
  repeat first | rw [then_normal] | rw [then_ret] | rw [then_exit] | rw [exit_normal] | rw [exit_ret] | rw [round_normal] | rw [round_exit] | rw [round_ret] | (rw [exit_exit]; simp only [Nat.reduceEqDiff, reduceIte])
  rw [n41_10_eq, c2_seq]
  rw [n41_11_eq]
  repeat first | with_reducible refine oK_i (by (simp only [zz1, zz2, zz3, zz4, zz5, zz6, zz7, zz8, zz9, zz10, zz11, zz12, zz13, zz14, fa, blen, Nat.reduceEqDiff, reduceIte, decide_true, decide_false, Bool.not_true, Bool.not_false, Nat.zero_add, Nat.add_zero, binL_rem4, binL_rem256, binL_quo256, s0, hG1, l0, l1, l2, ls, lz, Option.map_some, h1, h2, h3, h4, h5, hG2, m0, m1, m2, a1, a2, a3]) <;> rfl) ?_
  repeat first | rw [then_normal] | rw [then_ret] | rw [then_exit] | rw [exit_normal] | rw [exit_ret] | rw [round_normal] | rw [round_exit] | rw [round_ret] | (rw [exit_exit]; simp only [Nat.reduceEqDiff, reduceIte])
  rw [n41_12_eq, c2_seq]
  rw [n41_13_eq]
  repeat first | with_reducible refine vK_i (by (simp only [zz1, zz2, zz3, zz4, zz5, zz6, zz7, zz8, zz9, zz10, zz11, zz12, zz13, zz14, fa, blen, Nat.reduceEqDiff, reduceIte, decide_true, decide_false, Bool.not_true, Bool.not_false, Nat.zero_add, Nat.add_zero, binL_rem4, binL_rem256, binL_quo256, s0, hG1, l0, l1, l2, ls, lz, Option.map_some, h1, h2, h3, h4, h5, hG2, m0, m1, m2, a1, a2, a3]) <;> rfl) ?_ | with_reducible refine oK_i (by (simp only [zz1, zz2, zz3, zz4, zz5, zz6, zz7, zz8, zz9, zz10, zz11, zz12, zz13, zz14, fa, blen, Nat.reduceEqDiff, reduceIte, decide_true, decide_false, Bool.not_true, Bool.not_false, Nat.zero_add, Nat.add_zero, binL_rem4, binL_rem256, binL_quo256, s0, hG1, l0, l1, l2, ls, lz, Option.map_some, h1, h2, h3, h4, h5, hG2, m0, m1, m2, a1, a2, a3]) <;> rfl) ?_
  repeat first | rw [then_normal] | rw [then_ret] | rw [then_exit] | rw [exit_normal] | rw [exit_ret] | rw [round_normal] | rw [round_exit] | rw [round_ret] | (rw [exit_exit]; simp only [Nat.reduceEqDiff, reduceIte])
  rw [n41_14_eq, c2_seq]
  rw [n41_15_eq, c2_seq]
  rw [n41_16_eq]
  repeat first | with_reducible refine vK_i (by (simp only [zz1, zz2, zz3, zz4, zz5, zz6, zz7, zz8, zz9, zz10, zz11, zz12, zz13, zz14, fa, blen, Nat.reduceEqDiff, reduceIte, decide_true, decide_false, Bool.not_true, Bool.not_false, Nat.zero_add, Nat.add_zero, binL_rem4, binL_rem256, binL_quo256, s0, hG1, l0, l1, l2, ls, lz, Option.map_some, h1, h2, h3, h4, h5, hG2, m0, m1, m2, a1, a2, a3]) <;> rfl) ?_ | with_reducible refine oK_i (by (simp only [zz1, zz2, zz3, zz4, zz5, zz6, zz7, zz8, zz9, zz10, zz11, zz12, zz13, zz14, fa, blen, Nat.reduceEqDiff, reduceIte, decide_true, decide_false, Bool.not_true, Bool.not_false, Nat.zero_add, Nat.add_zero, binL_rem4, binL_rem256, binL_quo256, s0, hG1, l0, l1, l2, ls, lz, Option.map_some, h1, h2, h3, h4, h5, hG2, m0, m1, m2, a1, a2, a3]) <;> rfl) ?_
  repeat first | rw [then_normal] | rw [then_ret] | rw [then_exit] | rw [exit_normal] | rw [exit_ret] | rw [round_normal] | rw [round_exit] | rw [round_ret] | (rw [exit_exit]; simp only [Nat.reduceEqDiff, reduceIte])
  rw [n41_17_eq, c2_block]
  rw [n41_18_eq, c2_loop]
  refine loop_of (fun s => ∃ (k : Nat) (bs : List Bool), (s.tm 1 = .ptr g.next 0 ∧ s.tm 3 = .ptr (g.next + 1) 0 ∧ s.tm 4 = i (headN segs.length zs.length + sumLen (segs.take k)) ∧ s.tm 47 = i (k : Int) ∧ s.tm 45 = SV ∧ s.tm 46 = i segs.length) ∧ k ≤ segs.length ∧ bs.length = 128 ∧ Hp g s.g [i en, SV, ZV] bs ∧ chkSegs segs (List.replicate 128 false) = chkSegs (segs.drop k) bs ∧ 0 ≤ sumLen (segs.take k) ∧ sumLen (segs.take k) ≤ 16384 * k) (fun s => segs.length - (match s.tm 47 with | .int _ x => x.toNat | _ => 0)) ?_ ?_
  · refine ⟨0, _, ⟨by simp only [put_at, Nat.reduceEqDiff, reduceIte], by simp only [put_at, Nat.reduceEqDiff, reduceIte], by simp only [put_at, Nat.reduceEqDiff, reduceIte]; simp [sumLen], by simp only [put_at, Nat.reduceEqDiff, reduceIte]; rfl, by simp only [put_at, Nat.reduceEqDiff, reduceIte], by simp only [put_at, Nat.reduceEqDiff, reduceIte]⟩, Nat.zero_le _, by simp, HP, by simp, by simp [sumLen], by simp [sumLen]⟩
  rintro ⟨tm', h⟩ ⟨k, bs, ⟨t1, t3, t4, tk, t45, t46⟩, hk, hbl, H, hc, z0, z1⟩
  simp only at t1 t3 t4 tk t45 t46 H
  obtain ⟨m0, m1, m2⟩ := H.ld
  by_cases hlt : (k : Int) < segs.length
  · have hkl : k < segs.length := by omega
    obtain ⟨s, hsk⟩ : ∃ s, segs[k]? = some s := ⟨_, List.getElem?_eq_getElem hkl⟩
    have hB := hb s (List.mem_of_getElem? hsk)
    have hdrop : segs.drop k = s :: segs.drop (k + 1) := by rw [List.drop_eq_getElem_cons hkl]; rw [List.getElem?_eq_getElem hkl] at hsk; cases hsk; rfl
    obtain ⟨a, ha, hix, hrow⟩ := row_at hs (k := k) (x := i s.1) (y := s.2) (by rw [List.getElem?_map, hsk]; rfl)
    obtain ⟨hrow, _, _⟩ := hrow h (H.low a ha)
    obtain ⟨Ha, Hb, hn, hst, HB, d0, d1, d2⟩ := H.temp (i 0) .nils (i s.1) s.2 rfl rfl hB.cell
    have hlen : ∀ hh, lenL Try.prog 23 s.2 hh = some (i (lenLV s.2)) := len_b hB
    by_cases c1 : s.1 < 0
    · skip
      rw [n41_19_eq, c2_seq]
      rw [n41_20_eq]
      repeat first | with_reducible refine vK_i (by (simp only [zz1, zz2, zz3, zz4, zz5, zz6, zz7, zz8, zz9, zz10, zz11, zz12, zz13, zz14, fa, blen, Nat.reduceEqDiff, reduceIte, decide_true, decide_false, Bool.not_true, Bool.not_false, Nat.zero_add, Nat.add_zero, binL_rem4, binL_rem256, binL_quo256, Option.map_some, ls, lz, m0, m1, m2, t1, t3, t4, tk, t45, t46, hlt, hix, hrow, hn, hst, d0, d1, hlen, c1]) <;> rfl) ?_
      repeat first | rw [then_normal] | rw [then_ret] | rw [then_exit] | rw [exit_normal] | rw [exit_ret] | rw [round_normal] | rw [round_exit] | rw [round_ret] | (rw [exit_exit]; simp only [Nat.reduceEqDiff, reduceIte])
      rw [n41_21_eq, c2_seq]
      rw [n41_22_eq]
      refine ifB_t (by (simp only [zz1, zz2, zz3, zz4, zz5, zz6, zz7, zz8, zz9, zz10, zz11, zz12, zz13, zz14, fa, blen, Nat.reduceEqDiff, reduceIte, decide_true, decide_false, Bool.not_true, Bool.not_false, Nat.zero_add, Nat.add_zero, binL_rem4, binL_rem256, binL_quo256, Option.map_some, ls, lz, m0, m1, m2, t1, t3, t4, tk, t45, t46, hlt, hix, hrow, hn, hst, d0, d1, hlen, c1]) <;> rfl) ?_
      rw [n41_23_eq, c2_skip]
      repeat first | rw [then_normal] | rw [then_ret] | rw [then_exit] | rw [exit_normal] | rw [exit_ret] | rw [round_normal] | rw [round_exit] | rw [round_ret] | (rw [exit_exit]; simp only [Nat.reduceEqDiff, reduceIte])
      rw [n41_25_eq, c2_seq]
      rw [n41_26_eq, c2_block]
      rw [n41_27_eq, c2_seq]
      rw [n41_28_eq]
      repeat first | with_reducible refine vK_i (by (simp only [zz1, zz2, zz3, zz4, zz5, zz6, zz7, zz8, zz9, zz10, zz11, zz12, zz13, zz14, fa, blen, Nat.reduceEqDiff, reduceIte, decide_true, decide_false, Bool.not_true, Bool.not_false, Nat.zero_add, Nat.add_zero, binL_rem4, binL_rem256, binL_quo256, Option.map_some, ls, lz, m0, m1, m2, t1, t3, t4, tk, t45, t46, hlt, hix, hrow, hn, hst, d0, d1, hlen, c1]) <;> rfl) ?_ | with_reducible refine oK_i (by (simp only [zz1, zz2, zz3, zz4, zz5, zz6, zz7, zz8, zz9, zz10, zz11, zz12, zz13, zz14, fa, blen, Nat.reduceEqDiff, reduceIte, decide_true, decide_false, Bool.not_true, Bool.not_false, Nat.zero_add, Nat.add_zero, binL_rem4, binL_rem256, binL_quo256, Option.map_some, ls, lz, m0, m1, m2, t1, t3, t4, tk, t45, t46, hlt, hix, hrow, hn, hst, d0, d1, hlen, c1]) <;> rfl) ?_ | with_reducible refine gK_i (by (simp only [zz1, zz2, zz3, zz4, zz5, zz6, zz7, zz8, zz9, zz10, zz11, zz12, zz13, zz14, fa, blen, Nat.reduceEqDiff, reduceIte, decide_true, decide_false, Bool.not_true, Bool.not_false, Nat.zero_add, Nat.add_zero, binL_rem4, binL_rem256, binL_quo256, Option.map_some, ls, lz, m0, m1, m2, t1, t3, t4, tk, t45, t46, hlt, hix, hrow, hn, hst, d0, d1, hlen, c1]) <;> rfl) ?_
      repeat first | rw [then_normal] | rw [then_ret] | rw [then_exit] | rw [exit_normal] | rw [exit_ret] | rw [round_normal] | rw [round_exit] | rw [round_ret] | (rw [exit_exit]; simp only [Nat.reduceEqDiff, reduceIte])
      rw [n41_29_eq, c2_seq]
      rw [n41_30_eq, c2_seq]
      rw [n41_31_eq]
      repeat first | refine And.intro ?_ trivial | refine And.intro (by simp only [d0]) ?_ | with_reducible refine vK_i (by (simp only [zz1, zz2, zz3, zz4, zz5, zz6, zz7, zz8, zz9, zz10, zz11, zz12, zz13, zz14, fa, blen, Nat.reduceEqDiff, reduceIte, decide_true, decide_false, Bool.not_true, Bool.not_false, Nat.zero_add, Nat.add_zero, binL_rem4, binL_rem256, binL_quo256, Option.map_some, ls, lz, m0, m1, m2, t1, t3, t4, tk, t45, t46, hlt, hix, hrow, hn, hst, d0, d1, hlen, c1]) <;> rfl) ?_ | with_reducible refine gdv_i rfl (by (simp only [zz1, zz2, zz3, zz4, zz5, zz6, zz7, zz8, zz9, zz10, zz11, zz12, zz13, zz14, fa, blen, Nat.reduceEqDiff, reduceIte, decide_true, decide_false, Bool.not_true, Bool.not_false, Nat.zero_add, Nat.add_zero, binL_rem4, binL_rem256, binL_quo256, Option.map_some, ls, lz, m0, m1, m2, t1, t3, t4, tk, t45, t46, hlt, hix, hrow, hn, hst, d0, d1, hlen, c1]) <;> rfl) ?_ | with_reducible refine gdo_i rfl (by (simp only [zz1, zz2, zz3, zz4, zz5, zz6, zz7, zz8, zz9, zz10, zz11, zz12, zz13, zz14, fa, blen, Nat.reduceEqDiff, reduceIte, decide_true, decide_false, Bool.not_true, Bool.not_false, Nat.zero_add, Nat.add_zero, binL_rem4, binL_rem256, binL_quo256, Option.map_some, ls, lz, m0, m1, m2, t1, t3, t4, tk, t45, t46, hlt, hix, hrow, hn, hst, d0, d1, hlen, c1]) <;> rfl) ?_ | with_reducible refine gdk_i rfl ?_ | with_reducible refine gds_i rfl ?_ | with_reducible refine gds_u ?_ | rw [gd_true] | rw [gd_false'] | with_reducible refine gdVv_i rfl (by (simp only [zz1, zz2, zz3, zz4, zz5, zz6, zz7, zz8, zz9, zz10, zz11, zz12, zz13, zz14, fa, blen, Nat.reduceEqDiff, reduceIte, decide_true, decide_false, Bool.not_true, Bool.not_false, Nat.zero_add, Nat.add_zero, binL_rem4, binL_rem256, binL_quo256, Option.map_some, ls, lz, m0, m1, m2, t1, t3, t4, tk, t45, t46, hlt, hix, hrow, hn, hst, d0, d1, hlen, c1]) <;> rfl) ?_ | with_reducible refine gdDv_i rfl (by (simp only [zz1, zz2, zz3, zz4, zz5, zz6, zz7, zz8, zz9, zz10, zz11, zz12, zz13, zz14, fa, blen, Nat.reduceEqDiff, reduceIte, decide_true, decide_false, Bool.not_true, Bool.not_false, Nat.zero_add, Nat.add_zero, binL_rem4, binL_rem256, binL_quo256, Option.map_some, ls, lz, m0, m1, m2, t1, t3, t4, tk, t45, t46, hlt, hix, hrow, hn, hst, d0, d1, hlen, c1]) <;> rfl) ?_ | with_reducible refine gdVs_i rfl ?_ | with_reducible refine gdVs_u ?_ | with_reducible refine gdDs_i rfl ?_ | with_reducible refine gdDs_u ?_
      repeat first | rw [then_normal] | rw [then_ret] | rw [then_exit] | rw [exit_normal] | rw [exit_ret] | rw [round_normal] | rw [round_exit] | rw [round_ret] | (rw [exit_exit]; simp only [Nat.reduceEqDiff, reduceIte])
      rw [n41_32_eq]
      refine ifB_t (by (simp only [zz1, zz2, zz3, zz4, zz5, zz6, zz7, zz8, zz9, zz10, zz11, zz12, zz13, zz14, fa, blen, Nat.reduceEqDiff, reduceIte, decide_true, decide_false, Bool.not_true, Bool.not_false, Nat.zero_add, Nat.add_zero, binL_rem4, binL_rem256, binL_quo256, Option.map_some, ls, lz, m0, m1, m2, t1, t3, t4, tk, t45, t46, hlt, hix, hrow, hn, hst, d0, d1, hlen, c1]) <;> rfl) ?_
      rw [n41_33_eq, c2_seq]
      rw [n41_34_eq]
      skip
      repeat first | rw [then_normal] | rw [then_ret] | rw [then_exit] | rw [exit_normal] | rw [exit_ret] | rw [round_normal] | rw [round_exit] | rw [round_ret] | (rw [exit_exit]; simp only [Nat.reduceEqDiff, reduceIte])
      rw [n41_35_eq, c2_ret]
      repeat first | rw [then_normal] | rw [then_ret] | rw [then_exit] | rw [exit_normal] | rw [exit_ret] | rw [round_normal] | rw [round_exit] | rw [round_ret] | (rw [exit_exit]; simp only [Nat.reduceEqDiff, reduceIte])
      exact hend _ _ 230 _ _ rfl (by simp only [put_at, Nat.reduceEqDiff, reduceIte]) (by rw [hr, hc, hdrop]; simp [chkSegs, c1])
    cases c2 : (s.1.tmod 256 == 0) with
    | false =>
      have c2' : ¬ (s.1.tmod 256 = 0) := by simpa using c2
      rw [n41_19_eq, c2_seq]
      rw [n41_20_eq]
      repeat first | with_reducible refine vK_i (by (simp only [zz1, zz2, zz3, zz4, zz5, zz6, zz7, zz8, zz9, zz10, zz11, zz12, zz13, zz14, fa, blen, Nat.reduceEqDiff, reduceIte, decide_true, decide_false, Bool.not_true, Bool.not_false, Nat.zero_add, Nat.add_zero, binL_rem4, binL_rem256, binL_quo256, Option.map_some, ls, lz, m0, m1, m2, t1, t3, t4, tk, t45, t46, hlt, hix, hrow, hn, hst, d0, d1, hlen, c1, c2]) <;> rfl) ?_
      repeat first | rw [then_normal] | rw [then_ret] | rw [then_exit] | rw [exit_normal] | rw [exit_ret] | rw [round_normal] | rw [round_exit] | rw [round_ret] | (rw [exit_exit]; simp only [Nat.reduceEqDiff, reduceIte])
      rw [n41_21_eq, c2_seq]
      rw [n41_22_eq]
      refine ifB_t (by (simp only [zz1, zz2, zz3, zz4, zz5, zz6, zz7, zz8, zz9, zz10, zz11, zz12, zz13, zz14, fa, blen, Nat.reduceEqDiff, reduceIte, decide_true, decide_false, Bool.not_true, Bool.not_false, Nat.zero_add, Nat.add_zero, binL_rem4, binL_rem256, binL_quo256, Option.map_some, ls, lz, m0, m1, m2, t1, t3, t4, tk, t45, t46, hlt, hix, hrow, hn, hst, d0, d1, hlen, c1, c2]) <;> rfl) ?_
      rw [n41_23_eq, c2_skip]
      repeat first | rw [then_normal] | rw [then_ret] | rw [then_exit] | rw [exit_normal] | rw [exit_ret] | rw [round_normal] | rw [round_exit] | rw [round_ret] | (rw [exit_exit]; simp only [Nat.reduceEqDiff, reduceIte])
      rw [n41_25_eq, c2_seq]
      rw [n41_26_eq, c2_block]
      rw [n41_27_eq, c2_seq]
      rw [n41_28_eq]
      repeat first | with_reducible refine vK_i (by (simp only [zz1, zz2, zz3, zz4, zz5, zz6, zz7, zz8, zz9, zz10, zz11, zz12, zz13, zz14, fa, blen, Nat.reduceEqDiff, reduceIte, decide_true, decide_false, Bool.not_true, Bool.not_false, Nat.zero_add, Nat.add_zero, binL_rem4, binL_rem256, binL_quo256, Option.map_some, ls, lz, m0, m1, m2, t1, t3, t4, tk, t45, t46, hlt, hix, hrow, hn, hst, d0, d1, hlen, c1, c2]) <;> rfl) ?_ | with_reducible refine oK_i (by (simp only [zz1, zz2, zz3, zz4, zz5, zz6, zz7, zz8, zz9, zz10, zz11, zz12, zz13, zz14, fa, blen, Nat.reduceEqDiff, reduceIte, decide_true, decide_false, Bool.not_true, Bool.not_false, Nat.zero_add, Nat.add_zero, binL_rem4, binL_rem256, binL_quo256, Option.map_some, ls, lz, m0, m1, m2, t1, t3, t4, tk, t45, t46, hlt, hix, hrow, hn, hst, d0, d1, hlen, c1, c2]) <;> rfl) ?_ | with_reducible refine gK_i (by (simp only [zz1, zz2, zz3, zz4, zz5, zz6, zz7, zz8, zz9, zz10, zz11, zz12, zz13, zz14, fa, blen, Nat.reduceEqDiff, reduceIte, decide_true, decide_false, Bool.not_true, Bool.not_false, Nat.zero_add, Nat.add_zero, binL_rem4, binL_rem256, binL_quo256, Option.map_some, ls, lz, m0, m1, m2, t1, t3, t4, tk, t45, t46, hlt, hix, hrow, hn, hst, d0, d1, hlen, c1, c2]) <;> rfl) ?_
      repeat first | rw [then_normal] | rw [then_ret] | rw [then_exit] | rw [exit_normal] | rw [exit_ret] | rw [round_normal] | rw [round_exit] | rw [round_ret] | (rw [exit_exit]; simp only [Nat.reduceEqDiff, reduceIte])
      rw [n41_29_eq, c2_seq]
      rw [n41_30_eq, c2_seq]
      rw [n41_31_eq]
      repeat first | refine And.intro ?_ trivial | refine And.intro (by simp only [d0]) ?_ | with_reducible refine vK_i (by (simp only [zz1, zz2, zz3, zz4, zz5, zz6, zz7, zz8, zz9, zz10, zz11, zz12, zz13, zz14, fa, blen, Nat.reduceEqDiff, reduceIte, decide_true, decide_false, Bool.not_true, Bool.not_false, Nat.zero_add, Nat.add_zero, binL_rem4, binL_rem256, binL_quo256, Option.map_some, ls, lz, m0, m1, m2, t1, t3, t4, tk, t45, t46, hlt, hix, hrow, hn, hst, d0, d1, hlen, c1, c2]) <;> rfl) ?_ | with_reducible refine gdv_i rfl (by (simp only [zz1, zz2, zz3, zz4, zz5, zz6, zz7, zz8, zz9, zz10, zz11, zz12, zz13, zz14, fa, blen, Nat.reduceEqDiff, reduceIte, decide_true, decide_false, Bool.not_true, Bool.not_false, Nat.zero_add, Nat.add_zero, binL_rem4, binL_rem256, binL_quo256, Option.map_some, ls, lz, m0, m1, m2, t1, t3, t4, tk, t45, t46, hlt, hix, hrow, hn, hst, d0, d1, hlen, c1, c2]) <;> rfl) ?_ | with_reducible refine gdo_i rfl (by (simp only [zz1, zz2, zz3, zz4, zz5, zz6, zz7, zz8, zz9, zz10, zz11, zz12, zz13, zz14, fa, blen, Nat.reduceEqDiff, reduceIte, decide_true, decide_false, Bool.not_true, Bool.not_false, Nat.zero_add, Nat.add_zero, binL_rem4, binL_rem256, binL_quo256, Option.map_some, ls, lz, m0, m1, m2, t1, t3, t4, tk, t45, t46, hlt, hix, hrow, hn, hst, d0, d1, hlen, c1, c2]) <;> rfl) ?_ | with_reducible refine gdk_i rfl ?_ | with_reducible refine gds_i rfl ?_ | with_reducible refine gds_u ?_ | rw [gd_true] | rw [gd_false'] | with_reducible refine gdVv_i rfl (by (simp only [zz1, zz2, zz3, zz4, zz5, zz6, zz7, zz8, zz9, zz10, zz11, zz12, zz13, zz14, fa, blen, Nat.reduceEqDiff, reduceIte, decide_true, decide_false, Bool.not_true, Bool.not_false, Nat.zero_add, Nat.add_zero, binL_rem4, binL_rem256, binL_quo256, Option.map_some, ls, lz, m0, m1, m2, t1, t3, t4, tk, t45, t46, hlt, hix, hrow, hn, hst, d0, d1, hlen, c1, c2]) <;> rfl) ?_ | with_reducible refine gdDv_i rfl (by (simp only [zz1, zz2, zz3, zz4, zz5, zz6, zz7, zz8, zz9, zz10, zz11, zz12, zz13, zz14, fa, blen, Nat.reduceEqDiff, reduceIte, decide_true, decide_false, Bool.not_true, Bool.not_false, Nat.zero_add, Nat.add_zero, binL_rem4, binL_rem256, binL_quo256, Option.map_some, ls, lz, m0, m1, m2, t1, t3, t4, tk, t45, t46, hlt, hix, hrow, hn, hst, d0, d1, hlen, c1, c2]) <;> rfl) ?_ | with_reducible refine gdVs_i rfl ?_ | with_reducible refine gdVs_u ?_ | with_reducible refine gdDs_i rfl ?_ | with_reducible refine gdDs_u ?_
      repeat first | rw [then_normal] | rw [then_ret] | rw [then_exit] | rw [exit_normal] | rw [exit_ret] | rw [round_normal] | rw [round_exit] | rw [round_ret] | (rw [exit_exit]; simp only [Nat.reduceEqDiff, reduceIte])
      rw [n41_32_eq]
      refine ifB_t (by (simp only [zz1, zz2, zz3, zz4, zz5, zz6, zz7, zz8, zz9, zz10, zz11, zz12, zz13, zz14, fa, blen, Nat.reduceEqDiff, reduceIte, decide_true, decide_false, Bool.not_true, Bool.not_false, Nat.zero_add, Nat.add_zero, binL_rem4, binL_rem256, binL_quo256, Option.map_some, ls, lz, m0, m1, m2, t1, t3, t4, tk, t45, t46, hlt, hix, hrow, hn, hst, d0, d1, hlen, c1, c2]) <;> rfl) ?_
      rw [n41_33_eq, c2_seq]
      rw [n41_34_eq]
      skip
      repeat first | rw [then_normal] | rw [then_ret] | rw [then_exit] | rw [exit_normal] | rw [exit_ret] | rw [round_normal] | rw [round_exit] | rw [round_ret] | (rw [exit_exit]; simp only [Nat.reduceEqDiff, reduceIte])
      rw [n41_35_eq, c2_ret]
      repeat first | rw [then_normal] | rw [then_ret] | rw [then_exit] | rw [exit_normal] | rw [exit_ret] | rw [round_normal] | rw [round_exit] | rw [round_ret] | (rw [exit_exit]; simp only [Nat.reduceEqDiff, reduceIte])
      exact hend _ _ 230 _ _ rfl (by simp only [put_at, Nat.reduceEqDiff, reduceIte]) (by rw [hr, hc, hdrop]; simp [chkSegs, c1, c2'])
    | true =>
    have c2' : s.1.tmod 256 = 0 := by simpa using c2
    by_cases c3 : (16384 : Int) < lenLV s.2
    · skip
      rw [n41_19_eq, c2_seq]
      rw [n41_20_eq]
      repeat first | with_reducible refine vK_i (by (simp only [zz1, zz2, zz3, zz4, zz5, zz6, zz7, zz8, zz9, zz10, zz11, zz12, zz13, zz14, fa, blen, Nat.reduceEqDiff, reduceIte, decide_true, decide_false, Bool.not_true, Bool.not_false, Nat.zero_add, Nat.add_zero, binL_rem4, binL_rem256, binL_quo256, Option.map_some, ls, lz, m0, m1, m2, t1, t3, t4, tk, t45, t46, hlt, hix, hrow, hn, hst, d0, d1, hlen, c1, c2, c3]) <;> rfl) ?_
      repeat first | rw [then_normal] | rw [then_ret] | rw [then_exit] | rw [exit_normal] | rw [exit_ret] | rw [round_normal] | rw [round_exit] | rw [round_ret] | (rw [exit_exit]; simp only [Nat.reduceEqDiff, reduceIte])
      rw [n41_21_eq, c2_seq]
      rw [n41_22_eq]
      refine ifB_t (by (simp only [zz1, zz2, zz3, zz4, zz5, zz6, zz7, zz8, zz9, zz10, zz11, zz12, zz13, zz14, fa, blen, Nat.reduceEqDiff, reduceIte, decide_true, decide_false, Bool.not_true, Bool.not_false, Nat.zero_add, Nat.add_zero, binL_rem4, binL_rem256, binL_quo256, Option.map_some, ls, lz, m0, m1, m2, t1, t3, t4, tk, t45, t46, hlt, hix, hrow, hn, hst, d0, d1, hlen, c1, c2, c3]) <;> rfl) ?_
      rw [n41_23_eq, c2_skip]
      repeat first | rw [then_normal] | rw [then_ret] | rw [then_exit] | rw [exit_normal] | rw [exit_ret] | rw [round_normal] | rw [round_exit] | rw [round_ret] | (rw [exit_exit]; simp only [Nat.reduceEqDiff, reduceIte])
      rw [n41_25_eq, c2_seq]
      rw [n41_26_eq, c2_block]
      rw [n41_27_eq, c2_seq]
      rw [n41_28_eq]
      repeat first | with_reducible refine vK_i (by (simp only [zz1, zz2, zz3, zz4, zz5, zz6, zz7, zz8, zz9, zz10, zz11, zz12, zz13, zz14, fa, blen, Nat.reduceEqDiff, reduceIte, decide_true, decide_false, Bool.not_true, Bool.not_false, Nat.zero_add, Nat.add_zero, binL_rem4, binL_rem256, binL_quo256, Option.map_some, ls, lz, m0, m1, m2, t1, t3, t4, tk, t45, t46, hlt, hix, hrow, hn, hst, d0, d1, hlen, c1, c2, c3]) <;> rfl) ?_ | with_reducible refine oK_i (by (simp only [zz1, zz2, zz3, zz4, zz5, zz6, zz7, zz8, zz9, zz10, zz11, zz12, zz13, zz14, fa, blen, Nat.reduceEqDiff, reduceIte, decide_true, decide_false, Bool.not_true, Bool.not_false, Nat.zero_add, Nat.add_zero, binL_rem4, binL_rem256, binL_quo256, Option.map_some, ls, lz, m0, m1, m2, t1, t3, t4, tk, t45, t46, hlt, hix, hrow, hn, hst, d0, d1, hlen, c1, c2, c3]) <;> rfl) ?_ | with_reducible refine gK_i (by (simp only [zz1, zz2, zz3, zz4, zz5, zz6, zz7, zz8, zz9, zz10, zz11, zz12, zz13, zz14, fa, blen, Nat.reduceEqDiff, reduceIte, decide_true, decide_false, Bool.not_true, Bool.not_false, Nat.zero_add, Nat.add_zero, binL_rem4, binL_rem256, binL_quo256, Option.map_some, ls, lz, m0, m1, m2, t1, t3, t4, tk, t45, t46, hlt, hix, hrow, hn, hst, d0, d1, hlen, c1, c2, c3]) <;> rfl) ?_
      repeat first | rw [then_normal] | rw [then_ret] | rw [then_exit] | rw [exit_normal] | rw [exit_ret] | rw [round_normal] | rw [round_exit] | rw [round_ret] | (rw [exit_exit]; simp only [Nat.reduceEqDiff, reduceIte])
      rw [n41_29_eq, c2_seq]
      rw [n41_30_eq, c2_seq]
      rw [n41_31_eq]
      repeat first | refine And.intro ?_ trivial | refine And.intro (by simp only [d0]) ?_ | with_reducible refine vK_i (by (simp only [zz1, zz2, zz3, zz4, zz5, zz6, zz7, zz8, zz9, zz10, zz11, zz12, zz13, zz14, fa, blen, Nat.reduceEqDiff, reduceIte, decide_true, decide_false, Bool.not_true, Bool.not_false, Nat.zero_add, Nat.add_zero, binL_rem4, binL_rem256, binL_quo256, Option.map_some, ls, lz, m0, m1, m2, t1, t3, t4, tk, t45, t46, hlt, hix, hrow, hn, hst, d0, d1, hlen, c1, c2, c3]) <;> rfl) ?_ | with_reducible refine gdv_i rfl (by (simp only [zz1, zz2, zz3, zz4, zz5, zz6, zz7, zz8, zz9, zz10, zz11, zz12, zz13, zz14, fa, blen, Nat.reduceEqDiff, reduceIte, decide_true, decide_false, Bool.not_true, Bool.not_false, Nat.zero_add, Nat.add_zero, binL_rem4, binL_rem256, binL_quo256, Option.map_some, ls, lz, m0, m1, m2, t1, t3, t4, tk, t45, t46, hlt, hix, hrow, hn, hst, d0, d1, hlen, c1, c2, c3]) <;> rfl) ?_ | with_reducible refine gdo_i rfl (by (simp only [zz1, zz2, zz3, zz4, zz5, zz6, zz7, zz8, zz9, zz10, zz11, zz12, zz13, zz14, fa, blen, Nat.reduceEqDiff, reduceIte, decide_true, decide_false, Bool.not_true, Bool.not_false, Nat.zero_add, Nat.add_zero, binL_rem4, binL_rem256, binL_quo256, Option.map_some, ls, lz, m0, m1, m2, t1, t3, t4, tk, t45, t46, hlt, hix, hrow, hn, hst, d0, d1, hlen, c1, c2, c3]) <;> rfl) ?_ | with_reducible refine gdk_i rfl ?_ | with_reducible refine gds_i rfl ?_ | with_reducible refine gds_u ?_ | rw [gd_true] | rw [gd_false'] | with_reducible refine gdVv_i rfl (by (simp only [zz1, zz2, zz3, zz4, zz5, zz6, zz7, zz8, zz9, zz10, zz11, zz12, zz13, zz14, fa, blen, Nat.reduceEqDiff, reduceIte, decide_true, decide_false, Bool.not_true, Bool.not_false, Nat.zero_add, Nat.add_zero, binL_rem4, binL_rem256, binL_quo256, Option.map_some, ls, lz, m0, m1, m2, t1, t3, t4, tk, t45, t46, hlt, hix, hrow, hn, hst, d0, d1, hlen, c1, c2, c3]) <;> rfl) ?_ | with_reducible refine gdDv_i rfl (by (simp only [zz1, zz2, zz3, zz4, zz5, zz6, zz7, zz8, zz9, zz10, zz11, zz12, zz13, zz14, fa, blen, Nat.reduceEqDiff, reduceIte, decide_true, decide_false, Bool.not_true, Bool.not_false, Nat.zero_add, Nat.add_zero, binL_rem4, binL_rem256, binL_quo256, Option.map_some, ls, lz, m0, m1, m2, t1, t3, t4, tk, t45, t46, hlt, hix, hrow, hn, hst, d0, d1, hlen, c1, c2, c3]) <;> rfl) ?_ | with_reducible refine gdVs_i rfl ?_ | with_reducible refine gdVs_u ?_ | with_reducible refine gdDs_i rfl ?_ | with_reducible refine gdDs_u ?_
      repeat first | rw [then_normal] | rw [then_ret] | rw [then_exit] | rw [exit_normal] | rw [exit_ret] | rw [round_normal] | rw [round_exit] | rw [round_ret] | (rw [exit_exit]; simp only [Nat.reduceEqDiff, reduceIte])
      rw [n41_32_eq]
      refine ifB_t (by (simp only [zz1, zz2, zz3, zz4, zz5, zz6, zz7, zz8, zz9, zz10, zz11, zz12, zz13, zz14, fa, blen, Nat.reduceEqDiff, reduceIte, decide_true, decide_false, Bool.not_true, Bool.not_false, Nat.zero_add, Nat.add_zero, binL_rem4, binL_rem256, binL_quo256, Option.map_some, ls, lz, m0, m1, m2, t1, t3, t4, tk, t45, t46, hlt, hix, hrow, hn, hst, d0, d1, hlen, c1, c2, c3]) <;> rfl) ?_
      rw [n41_33_eq, c2_seq]
      rw [n41_34_eq]
      skip
      repeat first | rw [then_normal] | rw [then_ret] | rw [then_exit] | rw [exit_normal] | rw [exit_ret] | rw [round_normal] | rw [round_exit] | rw [round_ret] | (rw [exit_exit]; simp only [Nat.reduceEqDiff, reduceIte])
      rw [n41_35_eq, c2_ret]
      repeat first | rw [then_normal] | rw [then_ret] | rw [then_exit] | rw [exit_normal] | rw [exit_ret] | rw [round_normal] | rw [round_exit] | rw [round_ret] | (rw [exit_exit]; simp only [Nat.reduceEqDiff, reduceIte])
      exact hend _ _ 230 _ _ rfl (by simp only [put_at, Nat.reduceEqDiff, reduceIte]) (by rw [hr, hc, hdrop]; simp [chkSegs, c1, c2', c3])
    have hle : lenLV s.2 ≤ 2 ^ 48 := by omega
    have hpg := pages_eq hle
    cases c4 : (reachB (IntKind.i64.wrap (s.1.tdiv 256)) (pagesN (lenLV s.2)) bs).1 with
    | false =>
      rw [n41_19_eq, c2_seq]
      rw [n41_20_eq]
      repeat first | with_reducible refine vK_i (by (simp only [zz1, zz2, zz3, zz4, zz5, zz6, zz7, zz8, zz9, zz10, zz11, zz12, zz13, zz14, fa, blen, Nat.reduceEqDiff, reduceIte, decide_true, decide_false, Bool.not_true, Bool.not_false, Nat.zero_add, Nat.add_zero, binL_rem4, binL_rem256, binL_quo256, Option.map_some, ls, lz, m0, m1, m2, t1, t3, t4, tk, t45, t46, hlt, hix, hrow, hn, hst, d0, d1, hlen, c1, c2, c3, hpg, c4]) <;> rfl) ?_
      repeat first | rw [then_normal] | rw [then_ret] | rw [then_exit] | rw [exit_normal] | rw [exit_ret] | rw [round_normal] | rw [round_exit] | rw [round_ret] | (rw [exit_exit]; simp only [Nat.reduceEqDiff, reduceIte])
      rw [n41_21_eq, c2_seq]
      rw [n41_22_eq]
      refine ifB_t (by (simp only [zz1, zz2, zz3, zz4, zz5, zz6, zz7, zz8, zz9, zz10, zz11, zz12, zz13, zz14, fa, blen, Nat.reduceEqDiff, reduceIte, decide_true, decide_false, Bool.not_true, Bool.not_false, Nat.zero_add, Nat.add_zero, binL_rem4, binL_rem256, binL_quo256, Option.map_some, ls, lz, m0, m1, m2, t1, t3, t4, tk, t45, t46, hlt, hix, hrow, hn, hst, d0, d1, hlen, c1, c2, c3, hpg, c4]) <;> rfl) ?_
      rw [n41_23_eq, c2_skip]
      repeat first | rw [then_normal] | rw [then_ret] | rw [then_exit] | rw [exit_normal] | rw [exit_ret] | rw [round_normal] | rw [round_exit] | rw [round_ret] | (rw [exit_exit]; simp only [Nat.reduceEqDiff, reduceIte])
      rw [n41_25_eq, c2_seq]
      rw [n41_26_eq, c2_block]
      rw [n41_27_eq, c2_seq]
      rw [n41_28_eq]
      repeat first | with_reducible refine vK_i (by (simp only [zz1, zz2, zz3, zz4, zz5, zz6, zz7, zz8, zz9, zz10, zz11, zz12, zz13, zz14, fa, blen, Nat.reduceEqDiff, reduceIte, decide_true, decide_false, Bool.not_true, Bool.not_false, Nat.zero_add, Nat.add_zero, binL_rem4, binL_rem256, binL_quo256, Option.map_some, ls, lz, m0, m1, m2, t1, t3, t4, tk, t45, t46, hlt, hix, hrow, hn, hst, d0, d1, hlen, c1, c2, c3, hpg, c4]) <;> rfl) ?_ | with_reducible refine oK_i (by (simp only [zz1, zz2, zz3, zz4, zz5, zz6, zz7, zz8, zz9, zz10, zz11, zz12, zz13, zz14, fa, blen, Nat.reduceEqDiff, reduceIte, decide_true, decide_false, Bool.not_true, Bool.not_false, Nat.zero_add, Nat.add_zero, binL_rem4, binL_rem256, binL_quo256, Option.map_some, ls, lz, m0, m1, m2, t1, t3, t4, tk, t45, t46, hlt, hix, hrow, hn, hst, d0, d1, hlen, c1, c2, c3, hpg, c4]) <;> rfl) ?_ | with_reducible refine gK_i (by (simp only [zz1, zz2, zz3, zz4, zz5, zz6, zz7, zz8, zz9, zz10, zz11, zz12, zz13, zz14, fa, blen, Nat.reduceEqDiff, reduceIte, decide_true, decide_false, Bool.not_true, Bool.not_false, Nat.zero_add, Nat.add_zero, binL_rem4, binL_rem256, binL_quo256, Option.map_some, ls, lz, m0, m1, m2, t1, t3, t4, tk, t45, t46, hlt, hix, hrow, hn, hst, d0, d1, hlen, c1, c2, c3, hpg, c4]) <;> rfl) ?_
      repeat first | rw [then_normal] | rw [then_ret] | rw [then_exit] | rw [exit_normal] | rw [exit_ret] | rw [round_normal] | rw [round_exit] | rw [round_ret] | (rw [exit_exit]; simp only [Nat.reduceEqDiff, reduceIte])
      rw [n41_29_eq, c2_seq]
      rw [n41_30_eq, c2_seq]
      rw [n41_31_eq]
      repeat first | refine And.intro ?_ trivial | refine And.intro (by simp only [d0]) ?_ | with_reducible refine vK_i (by (simp only [zz1, zz2, zz3, zz4, zz5, zz6, zz7, zz8, zz9, zz10, zz11, zz12, zz13, zz14, fa, blen, Nat.reduceEqDiff, reduceIte, decide_true, decide_false, Bool.not_true, Bool.not_false, Nat.zero_add, Nat.add_zero, binL_rem4, binL_rem256, binL_quo256, Option.map_some, ls, lz, m0, m1, m2, t1, t3, t4, tk, t45, t46, hlt, hix, hrow, hn, hst, d0, d1, hlen, c1, c2, c3, hpg, c4]) <;> rfl) ?_ | with_reducible refine gdv_i rfl (by (simp only [zz1, zz2, zz3, zz4, zz5, zz6, zz7, zz8, zz9, zz10, zz11, zz12, zz13, zz14, fa, blen, Nat.reduceEqDiff, reduceIte, decide_true, decide_false, Bool.not_true, Bool.not_false, Nat.zero_add, Nat.add_zero, binL_rem4, binL_rem256, binL_quo256, Option.map_some, ls, lz, m0, m1, m2, t1, t3, t4, tk, t45, t46, hlt, hix, hrow, hn, hst, d0, d1, hlen, c1, c2, c3, hpg, c4]) <;> rfl) ?_ | with_reducible refine gdo_i rfl (by (simp only [zz1, zz2, zz3, zz4, zz5, zz6, zz7, zz8, zz9, zz10, zz11, zz12, zz13, zz14, fa, blen, Nat.reduceEqDiff, reduceIte, decide_true, decide_false, Bool.not_true, Bool.not_false, Nat.zero_add, Nat.add_zero, binL_rem4, binL_rem256, binL_quo256, Option.map_some, ls, lz, m0, m1, m2, t1, t3, t4, tk, t45, t46, hlt, hix, hrow, hn, hst, d0, d1, hlen, c1, c2, c3, hpg, c4]) <;> rfl) ?_ | with_reducible refine gdk_i rfl ?_ | with_reducible refine gds_i rfl ?_ | with_reducible refine gds_u ?_ | rw [gd_true] | rw [gd_false'] | with_reducible refine gdVv_i rfl (by (simp only [zz1, zz2, zz3, zz4, zz5, zz6, zz7, zz8, zz9, zz10, zz11, zz12, zz13, zz14, fa, blen, Nat.reduceEqDiff, reduceIte, decide_true, decide_false, Bool.not_true, Bool.not_false, Nat.zero_add, Nat.add_zero, binL_rem4, binL_rem256, binL_quo256, Option.map_some, ls, lz, m0, m1, m2, t1, t3, t4, tk, t45, t46, hlt, hix, hrow, hn, hst, d0, d1, hlen, c1, c2, c3, hpg, c4]) <;> rfl) ?_ | with_reducible refine gdDv_i rfl (by (simp only [zz1, zz2, zz3, zz4, zz5, zz6, zz7, zz8, zz9, zz10, zz11, zz12, zz13, zz14, fa, blen, Nat.reduceEqDiff, reduceIte, decide_true, decide_false, Bool.not_true, Bool.not_false, Nat.zero_add, Nat.add_zero, binL_rem4, binL_rem256, binL_quo256, Option.map_some, ls, lz, m0, m1, m2, t1, t3, t4, tk, t45, t46, hlt, hix, hrow, hn, hst, d0, d1, hlen, c1, c2, c3, hpg, c4]) <;> rfl) ?_ | with_reducible refine gdVs_i rfl ?_ | with_reducible refine gdVs_u ?_ | with_reducible refine gdDs_i rfl ?_ | with_reducible refine gdDs_u ?_
      refine (pages_pure hle).to ?_
      repeat first | refine And.intro ?_ trivial | refine And.intro (by simp only [d0]) ?_ | with_reducible refine vK_i (by (simp only [zz1, zz2, zz3, zz4, zz5, zz6, zz7, zz8, zz9, zz10, zz11, zz12, zz13, zz14, fa, blen, Nat.reduceEqDiff, reduceIte, decide_true, decide_false, Bool.not_true, Bool.not_false, Nat.zero_add, Nat.add_zero, binL_rem4, binL_rem256, binL_quo256, Option.map_some, ls, lz, m0, m1, m2, t1, t3, t4, tk, t45, t46, hlt, hix, hrow, hn, hst, d0, d1, hlen, c1, c2, c3, hpg, c4]) <;> rfl) ?_ | with_reducible refine gdv_i rfl (by (simp only [zz1, zz2, zz3, zz4, zz5, zz6, zz7, zz8, zz9, zz10, zz11, zz12, zz13, zz14, fa, blen, Nat.reduceEqDiff, reduceIte, decide_true, decide_false, Bool.not_true, Bool.not_false, Nat.zero_add, Nat.add_zero, binL_rem4, binL_rem256, binL_quo256, Option.map_some, ls, lz, m0, m1, m2, t1, t3, t4, tk, t45, t46, hlt, hix, hrow, hn, hst, d0, d1, hlen, c1, c2, c3, hpg, c4]) <;> rfl) ?_ | with_reducible refine gdo_i rfl (by (simp only [zz1, zz2, zz3, zz4, zz5, zz6, zz7, zz8, zz9, zz10, zz11, zz12, zz13, zz14, fa, blen, Nat.reduceEqDiff, reduceIte, decide_true, decide_false, Bool.not_true, Bool.not_false, Nat.zero_add, Nat.add_zero, binL_rem4, binL_rem256, binL_quo256, Option.map_some, ls, lz, m0, m1, m2, t1, t3, t4, tk, t45, t46, hlt, hix, hrow, hn, hst, d0, d1, hlen, c1, c2, c3, hpg, c4]) <;> rfl) ?_ | with_reducible refine gdk_i rfl ?_ | with_reducible refine gds_i rfl ?_ | with_reducible refine gds_u ?_ | rw [gd_true] | rw [gd_false'] | with_reducible refine gdVv_i rfl (by (simp only [zz1, zz2, zz3, zz4, zz5, zz6, zz7, zz8, zz9, zz10, zz11, zz12, zz13, zz14, fa, blen, Nat.reduceEqDiff, reduceIte, decide_true, decide_false, Bool.not_true, Bool.not_false, Nat.zero_add, Nat.add_zero, binL_rem4, binL_rem256, binL_quo256, Option.map_some, ls, lz, m0, m1, m2, t1, t3, t4, tk, t45, t46, hlt, hix, hrow, hn, hst, d0, d1, hlen, c1, c2, c3, hpg, c4]) <;> rfl) ?_ | with_reducible refine gdDv_i rfl (by (simp only [zz1, zz2, zz3, zz4, zz5, zz6, zz7, zz8, zz9, zz10, zz11, zz12, zz13, zz14, fa, blen, Nat.reduceEqDiff, reduceIte, decide_true, decide_false, Bool.not_true, Bool.not_false, Nat.zero_add, Nat.add_zero, binL_rem4, binL_rem256, binL_quo256, Option.map_some, ls, lz, m0, m1, m2, t1, t3, t4, tk, t45, t46, hlt, hix, hrow, hn, hst, d0, d1, hlen, c1, c2, c3, hpg, c4]) <;> rfl) ?_ | with_reducible refine gdVs_i rfl ?_ | with_reducible refine gdVs_u ?_ | with_reducible refine gdDs_i rfl ?_ | with_reducible refine gdDs_u ?_
      refine ok_a (by simp only [put_at, Nat.reduceEqDiff, reduceIte, t3]) (reach_ok hbl HB.seen (by decide) (IntKind.i64.wrap (s.1.tdiv 256)) (pagesN (lenLV s.2))) ?_
      rintro _ _ ⟨rfl, rfl⟩
      repeat first | refine And.intro ?_ trivial | refine And.intro (by simp only [d0]) ?_ | with_reducible refine vK_i (by (simp only [zz1, zz2, zz3, zz4, zz5, zz6, zz7, zz8, zz9, zz10, zz11, zz12, zz13, zz14, fa, blen, Nat.reduceEqDiff, reduceIte, decide_true, decide_false, Bool.not_true, Bool.not_false, Nat.zero_add, Nat.add_zero, binL_rem4, binL_rem256, binL_quo256, Option.map_some, ls, lz, m0, m1, m2, t1, t3, t4, tk, t45, t46, hlt, hix, hrow, hn, hst, d0, d1, hlen, c1, c2, c3, hpg, c4]) <;> rfl) ?_ | with_reducible refine gdv_i rfl (by (simp only [zz1, zz2, zz3, zz4, zz5, zz6, zz7, zz8, zz9, zz10, zz11, zz12, zz13, zz14, fa, blen, Nat.reduceEqDiff, reduceIte, decide_true, decide_false, Bool.not_true, Bool.not_false, Nat.zero_add, Nat.add_zero, binL_rem4, binL_rem256, binL_quo256, Option.map_some, ls, lz, m0, m1, m2, t1, t3, t4, tk, t45, t46, hlt, hix, hrow, hn, hst, d0, d1, hlen, c1, c2, c3, hpg, c4]) <;> rfl) ?_ | with_reducible refine gdo_i rfl (by (simp only [zz1, zz2, zz3, zz4, zz5, zz6, zz7, zz8, zz9, zz10, zz11, zz12, zz13, zz14, fa, blen, Nat.reduceEqDiff, reduceIte, decide_true, decide_false, Bool.not_true, Bool.not_false, Nat.zero_add, Nat.add_zero, binL_rem4, binL_rem256, binL_quo256, Option.map_some, ls, lz, m0, m1, m2, t1, t3, t4, tk, t45, t46, hlt, hix, hrow, hn, hst, d0, d1, hlen, c1, c2, c3, hpg, c4]) <;> rfl) ?_ | with_reducible refine gdk_i rfl ?_ | with_reducible refine gds_i rfl ?_ | with_reducible refine gds_u ?_ | rw [gd_true] | rw [gd_false'] | with_reducible refine gdVv_i rfl (by (simp only [zz1, zz2, zz3, zz4, zz5, zz6, zz7, zz8, zz9, zz10, zz11, zz12, zz13, zz14, fa, blen, Nat.reduceEqDiff, reduceIte, decide_true, decide_false, Bool.not_true, Bool.not_false, Nat.zero_add, Nat.add_zero, binL_rem4, binL_rem256, binL_quo256, Option.map_some, ls, lz, m0, m1, m2, t1, t3, t4, tk, t45, t46, hlt, hix, hrow, hn, hst, d0, d1, hlen, c1, c2, c3, hpg, c4]) <;> rfl) ?_ | with_reducible refine gdDv_i rfl (by (simp only [zz1, zz2, zz3, zz4, zz5, zz6, zz7, zz8, zz9, zz10, zz11, zz12, zz13, zz14, fa, blen, Nat.reduceEqDiff, reduceIte, decide_true, decide_false, Bool.not_true, Bool.not_false, Nat.zero_add, Nat.add_zero, binL_rem4, binL_rem256, binL_quo256, Option.map_some, ls, lz, m0, m1, m2, t1, t3, t4, tk, t45, t46, hlt, hix, hrow, hn, hst, d0, d1, hlen, c1, c2, c3, hpg, c4]) <;> rfl) ?_ | with_reducible refine gdVs_i rfl ?_ | with_reducible refine gdVs_u ?_ | with_reducible refine gdDs_i rfl ?_ | with_reducible refine gdDs_u ?_
      repeat first | rw [then_normal] | rw [then_ret] | rw [then_exit] | rw [exit_normal] | rw [exit_ret] | rw [round_normal] | rw [round_exit] | rw [round_ret] | (rw [exit_exit]; simp only [Nat.reduceEqDiff, reduceIte])
      rw [n41_32_eq]
      refine ifB_t (by (simp only [zz1, zz2, zz3, zz4, zz5, zz6, zz7, zz8, zz9, zz10, zz11, zz12, zz13, zz14, fa, blen, Nat.reduceEqDiff, reduceIte, decide_true, decide_false, Bool.not_true, Bool.not_false, Nat.zero_add, Nat.add_zero, binL_rem4, binL_rem256, binL_quo256, Option.map_some, ls, lz, m0, m1, m2, t1, t3, t4, tk, t45, t46, hlt, hix, hrow, hn, hst, d0, d1, hlen, c1, c2, c3, hpg, c4]) <;> rfl) ?_
      rw [n41_33_eq, c2_seq]
      rw [n41_34_eq]
      skip
      repeat first | rw [then_normal] | rw [then_ret] | rw [then_exit] | rw [exit_normal] | rw [exit_ret] | rw [round_normal] | rw [round_exit] | rw [round_ret] | (rw [exit_exit]; simp only [Nat.reduceEqDiff, reduceIte])
      rw [n41_35_eq, c2_ret]
      repeat first | rw [then_normal] | rw [then_ret] | rw [then_exit] | rw [exit_normal] | rw [exit_ret] | rw [round_normal] | rw [round_exit] | rw [round_ret] | (rw [exit_exit]; simp only [Nat.reduceEqDiff, reduceIte])
      exact hend _ _ 230 _ _ rfl (by simp only [put_at, Nat.reduceEqDiff, reduceIte]) (by rw [hr, hc, hdrop]; simp [chkSegs, c4])
    | true =>
      have hsz : IntKind.i64.wrap (headN segs.length zs.length + sumLen (segs.take k) + lenLV s.2) = headN segs.length zs.length + sumLen (segs.take (k + 1)) := by
        rw [sumLen_take hsk, IntWalk.i64_in _ ⟨by unfold headN; omega, by unfold headN; omega⟩]; omega
      have hk1 : IntKind.i64.wrap ((k : Int) + 1) = ((k + 1 : Nat) : Int) := by rw [IntWalk.i64_in _ ⟨by omega, by omega⟩]; rfl
      have hcond : ¬ (s.1 < 0 ∨ s.1.tmod 256 ≠ 0 ∨ (16384 : Int) < lenLV s.2) := by
        rintro (hx | hx | hx)
        · exact c1 hx
        · exact hx c2'
        · exact c3 hx
      rw [n41_19_eq, c2_seq]
      rw [n41_20_eq]
      repeat first | with_reducible refine vK_i (by (simp only [zz1, zz2, zz3, zz4, zz5, zz6, zz7, zz8, zz9, zz10, zz11, zz12, zz13, zz14, fa, blen, Nat.reduceEqDiff, reduceIte, decide_true, decide_false, Bool.not_true, Bool.not_false, Nat.zero_add, Nat.add_zero, binL_rem4, binL_rem256, binL_quo256, Option.map_some, ls, lz, m0, m1, m2, t1, t3, t4, tk, t45, t46, hlt, hix, hrow, hn, hst, d0, d1, hlen, c1, c2, c3, hpg, c4, d2, hsz, hk1]) <;> rfl) ?_
      repeat first | rw [then_normal] | rw [then_ret] | rw [then_exit] | rw [exit_normal] | rw [exit_ret] | rw [round_normal] | rw [round_exit] | rw [round_ret] | (rw [exit_exit]; simp only [Nat.reduceEqDiff, reduceIte])
      rw [n41_21_eq, c2_seq]
      rw [n41_22_eq]
      refine ifB_t (by (simp only [zz1, zz2, zz3, zz4, zz5, zz6, zz7, zz8, zz9, zz10, zz11, zz12, zz13, zz14, fa, blen, Nat.reduceEqDiff, reduceIte, decide_true, decide_false, Bool.not_true, Bool.not_false, Nat.zero_add, Nat.add_zero, binL_rem4, binL_rem256, binL_quo256, Option.map_some, ls, lz, m0, m1, m2, t1, t3, t4, tk, t45, t46, hlt, hix, hrow, hn, hst, d0, d1, hlen, c1, c2, c3, hpg, c4, d2, hsz, hk1]) <;> rfl) ?_
      rw [n41_23_eq, c2_skip]
      repeat first | rw [then_normal] | rw [then_ret] | rw [then_exit] | rw [exit_normal] | rw [exit_ret] | rw [round_normal] | rw [round_exit] | rw [round_ret] | (rw [exit_exit]; simp only [Nat.reduceEqDiff, reduceIte])
      rw [n41_25_eq, c2_seq]
      rw [n41_26_eq, c2_block]
      rw [n41_27_eq, c2_seq]
      rw [n41_28_eq]
      repeat first | with_reducible refine vK_i (by (simp only [zz1, zz2, zz3, zz4, zz5, zz6, zz7, zz8, zz9, zz10, zz11, zz12, zz13, zz14, fa, blen, Nat.reduceEqDiff, reduceIte, decide_true, decide_false, Bool.not_true, Bool.not_false, Nat.zero_add, Nat.add_zero, binL_rem4, binL_rem256, binL_quo256, Option.map_some, ls, lz, m0, m1, m2, t1, t3, t4, tk, t45, t46, hlt, hix, hrow, hn, hst, d0, d1, hlen, c1, c2, c3, hpg, c4, d2, hsz, hk1]) <;> rfl) ?_ | with_reducible refine oK_i (by (simp only [zz1, zz2, zz3, zz4, zz5, zz6, zz7, zz8, zz9, zz10, zz11, zz12, zz13, zz14, fa, blen, Nat.reduceEqDiff, reduceIte, decide_true, decide_false, Bool.not_true, Bool.not_false, Nat.zero_add, Nat.add_zero, binL_rem4, binL_rem256, binL_quo256, Option.map_some, ls, lz, m0, m1, m2, t1, t3, t4, tk, t45, t46, hlt, hix, hrow, hn, hst, d0, d1, hlen, c1, c2, c3, hpg, c4, d2, hsz, hk1]) <;> rfl) ?_ | with_reducible refine gK_i (by (simp only [zz1, zz2, zz3, zz4, zz5, zz6, zz7, zz8, zz9, zz10, zz11, zz12, zz13, zz14, fa, blen, Nat.reduceEqDiff, reduceIte, decide_true, decide_false, Bool.not_true, Bool.not_false, Nat.zero_add, Nat.add_zero, binL_rem4, binL_rem256, binL_quo256, Option.map_some, ls, lz, m0, m1, m2, t1, t3, t4, tk, t45, t46, hlt, hix, hrow, hn, hst, d0, d1, hlen, c1, c2, c3, hpg, c4, d2, hsz, hk1]) <;> rfl) ?_
      repeat first | rw [then_normal] | rw [then_ret] | rw [then_exit] | rw [exit_normal] | rw [exit_ret] | rw [round_normal] | rw [round_exit] | rw [round_ret] | (rw [exit_exit]; simp only [Nat.reduceEqDiff, reduceIte])
      rw [n41_29_eq, c2_seq]
      rw [n41_30_eq, c2_seq]
      rw [n41_31_eq]
      repeat first | refine And.intro ?_ trivial | refine And.intro (by simp only [d0]) ?_ | with_reducible refine vK_i (by (simp only [zz1, zz2, zz3, zz4, zz5, zz6, zz7, zz8, zz9, zz10, zz11, zz12, zz13, zz14, fa, blen, Nat.reduceEqDiff, reduceIte, decide_true, decide_false, Bool.not_true, Bool.not_false, Nat.zero_add, Nat.add_zero, binL_rem4, binL_rem256, binL_quo256, Option.map_some, ls, lz, m0, m1, m2, t1, t3, t4, tk, t45, t46, hlt, hix, hrow, hn, hst, d0, d1, hlen, c1, c2, c3, hpg, c4, d2, hsz, hk1]) <;> rfl) ?_ | with_reducible refine gdv_i rfl (by (simp only [zz1, zz2, zz3, zz4, zz5, zz6, zz7, zz8, zz9, zz10, zz11, zz12, zz13, zz14, fa, blen, Nat.reduceEqDiff, reduceIte, decide_true, decide_false, Bool.not_true, Bool.not_false, Nat.zero_add, Nat.add_zero, binL_rem4, binL_rem256, binL_quo256, Option.map_some, ls, lz, m0, m1, m2, t1, t3, t4, tk, t45, t46, hlt, hix, hrow, hn, hst, d0, d1, hlen, c1, c2, c3, hpg, c4, d2, hsz, hk1]) <;> rfl) ?_ | with_reducible refine gdo_i rfl (by (simp only [zz1, zz2, zz3, zz4, zz5, zz6, zz7, zz8, zz9, zz10, zz11, zz12, zz13, zz14, fa, blen, Nat.reduceEqDiff, reduceIte, decide_true, decide_false, Bool.not_true, Bool.not_false, Nat.zero_add, Nat.add_zero, binL_rem4, binL_rem256, binL_quo256, Option.map_some, ls, lz, m0, m1, m2, t1, t3, t4, tk, t45, t46, hlt, hix, hrow, hn, hst, d0, d1, hlen, c1, c2, c3, hpg, c4, d2, hsz, hk1]) <;> rfl) ?_ | with_reducible refine gdk_i rfl ?_ | with_reducible refine gds_i rfl ?_ | with_reducible refine gds_u ?_ | rw [gd_true] | rw [gd_false'] | with_reducible refine gdVv_i rfl (by (simp only [zz1, zz2, zz3, zz4, zz5, zz6, zz7, zz8, zz9, zz10, zz11, zz12, zz13, zz14, fa, blen, Nat.reduceEqDiff, reduceIte, decide_true, decide_false, Bool.not_true, Bool.not_false, Nat.zero_add, Nat.add_zero, binL_rem4, binL_rem256, binL_quo256, Option.map_some, ls, lz, m0, m1, m2, t1, t3, t4, tk, t45, t46, hlt, hix, hrow, hn, hst, d0, d1, hlen, c1, c2, c3, hpg, c4, d2, hsz, hk1]) <;> rfl) ?_ | with_reducible refine gdDv_i rfl (by (simp only [zz1, zz2, zz3, zz4, zz5, zz6, zz7, zz8, zz9, zz10, zz11, zz12, zz13, zz14, fa, blen, Nat.reduceEqDiff, reduceIte, decide_true, decide_false, Bool.not_true, Bool.not_false, Nat.zero_add, Nat.add_zero, binL_rem4, binL_rem256, binL_quo256, Option.map_some, ls, lz, m0, m1, m2, t1, t3, t4, tk, t45, t46, hlt, hix, hrow, hn, hst, d0, d1, hlen, c1, c2, c3, hpg, c4, d2, hsz, hk1]) <;> rfl) ?_ | with_reducible refine gdVs_i rfl ?_ | with_reducible refine gdVs_u ?_ | with_reducible refine gdDs_i rfl ?_ | with_reducible refine gdDs_u ?_
      refine (pages_pure hle).to ?_
      repeat first | refine And.intro ?_ trivial | refine And.intro (by simp only [d0]) ?_ | with_reducible refine vK_i (by (simp only [zz1, zz2, zz3, zz4, zz5, zz6, zz7, zz8, zz9, zz10, zz11, zz12, zz13, zz14, fa, blen, Nat.reduceEqDiff, reduceIte, decide_true, decide_false, Bool.not_true, Bool.not_false, Nat.zero_add, Nat.add_zero, binL_rem4, binL_rem256, binL_quo256, Option.map_some, ls, lz, m0, m1, m2, t1, t3, t4, tk, t45, t46, hlt, hix, hrow, hn, hst, d0, d1, hlen, c1, c2, c3, hpg, c4, d2, hsz, hk1]) <;> rfl) ?_ | with_reducible refine gdv_i rfl (by (simp only [zz1, zz2, zz3, zz4, zz5, zz6, zz7, zz8, zz9, zz10, zz11, zz12, zz13, zz14, fa, blen, Nat.reduceEqDiff, reduceIte, decide_true, decide_false, Bool.not_true, Bool.not_false, Nat.zero_add, Nat.add_zero, binL_rem4, binL_rem256, binL_quo256, Option.map_some, ls, lz, m0, m1, m2, t1, t3, t4, tk, t45, t46, hlt, hix, hrow, hn, hst, d0, d1, hlen, c1, c2, c3, hpg, c4, d2, hsz, hk1]) <;> rfl) ?_ | with_reducible refine gdo_i rfl (by (simp only [zz1, zz2, zz3, zz4, zz5, zz6, zz7, zz8, zz9, zz10, zz11, zz12, zz13, zz14, fa, blen, Nat.reduceEqDiff, reduceIte, decide_true, decide_false, Bool.not_true, Bool.not_false, Nat.zero_add, Nat.add_zero, binL_rem4, binL_rem256, binL_quo256, Option.map_some, ls, lz, m0, m1, m2, t1, t3, t4, tk, t45, t46, hlt, hix, hrow, hn, hst, d0, d1, hlen, c1, c2, c3, hpg, c4, d2, hsz, hk1]) <;> rfl) ?_ | with_reducible refine gdk_i rfl ?_ | with_reducible refine gds_i rfl ?_ | with_reducible refine gds_u ?_ | rw [gd_true] | rw [gd_false'] | with_reducible refine gdVv_i rfl (by (simp only [zz1, zz2, zz3, zz4, zz5, zz6, zz7, zz8, zz9, zz10, zz11, zz12, zz13, zz14, fa, blen, Nat.reduceEqDiff, reduceIte, decide_true, decide_false, Bool.not_true, Bool.not_false, Nat.zero_add, Nat.add_zero, binL_rem4, binL_rem256, binL_quo256, Option.map_some, ls, lz, m0, m1, m2, t1, t3, t4, tk, t45, t46, hlt, hix, hrow, hn, hst, d0, d1, hlen, c1, c2, c3, hpg, c4, d2, hsz, hk1]) <;> rfl) ?_ | with_reducible refine gdDv_i rfl (by (simp only [zz1, zz2, zz3, zz4, zz5, zz6, zz7, zz8, zz9, zz10, zz11, zz12, zz13, zz14, fa, blen, Nat.reduceEqDiff, reduceIte, decide_true, decide_false, Bool.not_true, Bool.not_false, Nat.zero_add, Nat.add_zero, binL_rem4, binL_rem256, binL_quo256, Option.map_some, ls, lz, m0, m1, m2, t1, t3, t4, tk, t45, t46, hlt, hix, hrow, hn, hst, d0, d1, hlen, c1, c2, c3, hpg, c4, d2, hsz, hk1]) <;> rfl) ?_ | with_reducible refine gdVs_i rfl ?_ | with_reducible refine gdVs_u ?_ | with_reducible refine gdDs_i rfl ?_ | with_reducible refine gdDs_u ?_
      refine ok_a (by simp only [put_at, Nat.reduceEqDiff, reduceIte, t3]) (reach_ok hbl HB.seen (by decide) (IntKind.i64.wrap (s.1.tdiv 256)) (pagesN (lenLV s.2))) ?_
      rintro _ _ ⟨rfl, rfl⟩
      repeat first | refine And.intro ?_ trivial | refine And.intro (by simp only [d0]) ?_ | with_reducible refine vK_i (by (simp only [zz1, zz2, zz3, zz4, zz5, zz6, zz7, zz8, zz9, zz10, zz11, zz12, zz13, zz14, fa, blen, Nat.reduceEqDiff, reduceIte, decide_true, decide_false, Bool.not_true, Bool.not_false, Nat.zero_add, Nat.add_zero, binL_rem4, binL_rem256, binL_quo256, Option.map_some, ls, lz, m0, m1, m2, t1, t3, t4, tk, t45, t46, hlt, hix, hrow, hn, hst, d0, d1, hlen, c1, c2, c3, hpg, c4, d2, hsz, hk1]) <;> rfl) ?_ | with_reducible refine gdv_i rfl (by (simp only [zz1, zz2, zz3, zz4, zz5, zz6, zz7, zz8, zz9, zz10, zz11, zz12, zz13, zz14, fa, blen, Nat.reduceEqDiff, reduceIte, decide_true, decide_false, Bool.not_true, Bool.not_false, Nat.zero_add, Nat.add_zero, binL_rem4, binL_rem256, binL_quo256, Option.map_some, ls, lz, m0, m1, m2, t1, t3, t4, tk, t45, t46, hlt, hix, hrow, hn, hst, d0, d1, hlen, c1, c2, c3, hpg, c4, d2, hsz, hk1]) <;> rfl) ?_ | with_reducible refine gdo_i rfl (by (simp only [zz1, zz2, zz3, zz4, zz5, zz6, zz7, zz8, zz9, zz10, zz11, zz12, zz13, zz14, fa, blen, Nat.reduceEqDiff, reduceIte, decide_true, decide_false, Bool.not_true, Bool.not_false, Nat.zero_add, Nat.add_zero, binL_rem4, binL_rem256, binL_quo256, Option.map_some, ls, lz, m0, m1, m2, t1, t3, t4, tk, t45, t46, hlt, hix, hrow, hn, hst, d0, d1, hlen, c1, c2, c3, hpg, c4, d2, hsz, hk1]) <;> rfl) ?_ | with_reducible refine gdk_i rfl ?_ | with_reducible refine gds_i rfl ?_ | with_reducible refine gds_u ?_ | rw [gd_true] | rw [gd_false'] | with_reducible refine gdVv_i rfl (by (simp only [zz1, zz2, zz3, zz4, zz5, zz6, zz7, zz8, zz9, zz10, zz11, zz12, zz13, zz14, fa, blen, Nat.reduceEqDiff, reduceIte, decide_true, decide_false, Bool.not_true, Bool.not_false, Nat.zero_add, Nat.add_zero, binL_rem4, binL_rem256, binL_quo256, Option.map_some, ls, lz, m0, m1, m2, t1, t3, t4, tk, t45, t46, hlt, hix, hrow, hn, hst, d0, d1, hlen, c1, c2, c3, hpg, c4, d2, hsz, hk1]) <;> rfl) ?_ | with_reducible refine gdDv_i rfl (by (simp only [zz1, zz2, zz3, zz4, zz5, zz6, zz7, zz8, zz9, zz10, zz11, zz12, zz13, zz14, fa, blen, Nat.reduceEqDiff, reduceIte, decide_true, decide_false, Bool.not_true, Bool.not_false, Nat.zero_add, Nat.add_zero, binL_rem4, binL_rem256, binL_quo256, Option.map_some, ls, lz, m0, m1, m2, t1, t3, t4, tk, t45, t46, hlt, hix, hrow, hn, hst, d0, d1, hlen, c1, c2, c3, hpg, c4, d2, hsz, hk1]) <;> rfl) ?_ | with_reducible refine gdVs_i rfl ?_ | with_reducible refine gdVs_u ?_ | with_reducible refine gdDs_i rfl ?_ | with_reducible refine gdDs_u ?_
      repeat first | rw [then_normal] | rw [then_ret] | rw [then_exit] | rw [exit_normal] | rw [exit_ret] | rw [round_normal] | rw [round_exit] | rw [round_ret] | (rw [exit_exit]; simp only [Nat.reduceEqDiff, reduceIte])
      rw [n41_32_eq]
      refine ifB_f (by (simp only [zz1, zz2, zz3, zz4, zz5, zz6, zz7, zz8, zz9, zz10, zz11, zz12, zz13, zz14, fa, blen, Nat.reduceEqDiff, reduceIte, decide_true, decide_false, Bool.not_true, Bool.not_false, Nat.zero_add, Nat.add_zero, binL_rem4, binL_rem256, binL_quo256, Option.map_some, ls, lz, m0, m1, m2, t1, t3, t4, tk, t45, t46, hlt, hix, hrow, hn, hst, d0, d1, hlen, c1, c2, c3, hpg, c4, d2, hsz, hk1]) <;> rfl) ?_
      rw [n41_36_eq, c2_skip]
      repeat first | rw [then_normal] | rw [then_ret] | rw [then_exit] | rw [exit_normal] | rw [exit_ret] | rw [round_normal] | rw [round_exit] | rw [round_ret] | (rw [exit_exit]; simp only [Nat.reduceEqDiff, reduceIte])
      rw [n41_37_eq]
      repeat first | with_reducible refine vK_i (by (simp only [zz1, zz2, zz3, zz4, zz5, zz6, zz7, zz8, zz9, zz10, zz11, zz12, zz13, zz14, fa, blen, Nat.reduceEqDiff, reduceIte, decide_true, decide_false, Bool.not_true, Bool.not_false, Nat.zero_add, Nat.add_zero, binL_rem4, binL_rem256, binL_quo256, Option.map_some, ls, lz, m0, m1, m2, t1, t3, t4, tk, t45, t46, hlt, hix, hrow, hn, hst, d0, d1, hlen, c1, c2, c3, hpg, c4, d2, hsz, hk1]) <;> rfl) ?_ | with_reducible refine oK_i (by (simp only [zz1, zz2, zz3, zz4, zz5, zz6, zz7, zz8, zz9, zz10, zz11, zz12, zz13, zz14, fa, blen, Nat.reduceEqDiff, reduceIte, decide_true, decide_false, Bool.not_true, Bool.not_false, Nat.zero_add, Nat.add_zero, binL_rem4, binL_rem256, binL_quo256, Option.map_some, ls, lz, m0, m1, m2, t1, t3, t4, tk, t45, t46, hlt, hix, hrow, hn, hst, d0, d1, hlen, c1, c2, c3, hpg, c4, d2, hsz, hk1]) <;> rfl) ?_
      repeat first | rw [then_normal] | rw [then_ret] | rw [then_exit] | rw [exit_normal] | rw [exit_ret] | rw [round_normal] | rw [round_exit] | rw [round_ret] | (rw [exit_exit]; simp only [Nat.reduceEqDiff, reduceIte])
      rw [n41_38_eq]
      repeat first | with_reducible refine vK_i (by (simp only [zz1, zz2, zz3, zz4, zz5, zz6, zz7, zz8, zz9, zz10, zz11, zz12, zz13, zz14, fa, blen, Nat.reduceEqDiff, reduceIte, decide_true, decide_false, Bool.not_true, Bool.not_false, Nat.zero_add, Nat.add_zero, binL_rem4, binL_rem256, binL_quo256, Option.map_some, ls, lz, m0, m1, m2, t1, t3, t4, tk, t45, t46, hlt, hix, hrow, hn, hst, d0, d1, hlen, c1, c2, c3, hpg, c4, d2, hsz, hk1]) <;> rfl) ?_
      repeat first | rw [then_normal] | rw [then_ret] | rw [then_exit] | rw [exit_normal] | rw [exit_ret] | rw [round_normal] | rw [round_exit] | rw [round_ret] | (rw [exit_exit]; simp only [Nat.reduceEqDiff, reduceIte])
      refine ⟨⟨k + 1, (reachB (IntKind.i64.wrap (s.1.tdiv 256)) (pagesN (lenLV s.2)) bs).2, ⟨by simp only [put_at, Nat.reduceEqDiff, reduceIte, t1], by simp only [put_at, Nat.reduceEqDiff, reduceIte, t3], by simp only [put_at, Nat.reduceEqDiff, reduceIte], by simp only [put_at, Nat.reduceEqDiff, reduceIte], by simp only [put_at, Nat.reduceEqDiff, reduceIte, t45], by simp only [put_at, Nat.reduceEqDiff, reduceIte, t46]⟩, by omega, by rw [reachB_len, hbl], HB.mark _, ?_, ?_, ?_⟩, ?_⟩
      · rw [hc, hdrop, chkSegs, if_neg hcond, if_pos c4]
      · rw [sumLen_take hsk]; omega
      · rw [sumLen_take hsk]; omega
      · have hm : segs.length - (k + 1) < segs.length - k := by omega
        simp only [put_at, Nat.reduceEqDiff, reduceIte, tk, Int.toNat_natCast]
        exact hm
  · have hke : k = segs.length := by omega
    have hc' : chkSegs segs (List.replicate 128 false) = some bs := by rw [hc, hke, List.drop_length]; rfl
    rw [hke, List.take_length] at t4 z0 z1
    rw [n41_19_eq, c2_seq]
    rw [n41_20_eq]
    repeat first | with_reducible refine vK_i (by (simp only [zz1, zz2, zz3, zz4, zz5, zz6, zz7, zz8, zz9, zz10, zz11, zz12, zz13, zz14, fa, blen, Nat.reduceEqDiff, reduceIte, decide_true, decide_false, Bool.not_true, Bool.not_false, Nat.zero_add, Nat.add_zero, binL_rem4, binL_rem256, binL_quo256, Option.map_some, ls, lz, m0, m1, m2, t1, t3, t4, tk, t45, t46, hlt]) <;> rfl) ?_
    repeat first | rw [then_normal] | rw [then_ret] | rw [then_exit] | rw [exit_normal] | rw [exit_ret] | rw [round_normal] | rw [round_exit] | rw [round_ret] | (rw [exit_exit]; simp only [Nat.reduceEqDiff, reduceIte])
    rw [n41_21_eq, c2_seq]
    rw [n41_22_eq]
    refine ifB_f (by (simp only [zz1, zz2, zz3, zz4, zz5, zz6, zz7, zz8, zz9, zz10, zz11, zz12, zz13, zz14, fa, blen, Nat.reduceEqDiff, reduceIte, decide_true, decide_false, Bool.not_true, Bool.not_false, Nat.zero_add, Nat.add_zero, binL_rem4, binL_rem256, binL_quo256, Option.map_some, ls, lz, m0, m1, m2, t1, t3, t4, tk, t45, t46, hlt]) <;> rfl) ?_
    rw [n41_24_eq, c2_exit]
    repeat first | rw [then_normal] | rw [then_ret] | rw [then_exit] | rw [exit_normal] | rw [exit_ret] | rw [round_normal] | rw [round_exit] | rw [round_ret] | (rw [exit_exit]; simp only [Nat.reduceEqDiff, reduceIte])
    rw [n41_39_eq, c2_seq]
    rw [n41_40_eq, c2_seq]
    rw [n41_41_eq]
    repeat first | with_reducible refine vK_i (by (simp only [zz1, zz2, zz3, zz4, zz5, zz6, zz7, zz8, zz9, zz10, zz11, zz12, zz13, zz14, fa, blen, Nat.reduceEqDiff, reduceIte, decide_true, decide_false, Bool.not_true, Bool.not_false, Nat.zero_add, Nat.add_zero, binL_rem4, binL_rem256, binL_quo256, Option.map_some, ls, lz, m0, m1, m2, t1, t3, t4, tk, t45, t46]) <;> rfl) ?_ | with_reducible refine oK_i (by (simp only [zz1, zz2, zz3, zz4, zz5, zz6, zz7, zz8, zz9, zz10, zz11, zz12, zz13, zz14, fa, blen, Nat.reduceEqDiff, reduceIte, decide_true, decide_false, Bool.not_true, Bool.not_false, Nat.zero_add, Nat.add_zero, binL_rem4, binL_rem256, binL_quo256, Option.map_some, ls, lz, m0, m1, m2, t1, t3, t4, tk, t45, t46]) <;> rfl) ?_
    repeat first | rw [then_normal] | rw [then_ret] | rw [then_exit] | rw [exit_normal] | rw [exit_ret] | rw [round_normal] | rw [round_exit] | rw [round_ret] | (rw [exit_exit]; simp only [Nat.reduceEqDiff, reduceIte])
    rw [n41_42_eq, c2_block]
    rw [n41_43_eq, c2_loop]
    refine loop_of (fun s => ∃ (k : Nat) (bs' : List Bool), (s.tm 1 = .ptr g.next 0 ∧ s.tm 3 = .ptr (g.next + 1) 0 ∧ s.tm 4 = i (headN segs.length zs.length + sumLen segs) ∧ s.tm 86 = i (k : Int) ∧ s.tm 84 = ZV ∧ s.tm 85 = i zs.length) ∧ k ≤ zs.length ∧ bs'.length = 128 ∧ Hp g s.g [i en, SV, ZV] bs' ∧ chkZeros zs bs = chkZeros (zs.drop k) bs') (fun s => zs.length - (match s.tm 86 with | .int _ x => x.toNat | _ => 0)) ?_ ?_
    · exact ⟨0, bs, ⟨by simp only [put_at, Nat.reduceEqDiff, reduceIte, t1], by simp only [put_at, Nat.reduceEqDiff, reduceIte, t3], by simp only [put_at, Nat.reduceEqDiff, reduceIte, t4], by simp only [put_at, Nat.reduceEqDiff, reduceIte]; rfl, by simp only [put_at, Nat.reduceEqDiff, reduceIte], by simp only [put_at, Nat.reduceEqDiff, reduceIte]⟩, Nat.zero_le _, hbl, H, by simp⟩
    clear t1 t3 t4 tk t45 t46 hlt m0 m1 m2 hk hke hc H
    rintro ⟨tm', h⟩ ⟨k, bs', ⟨t1, t3, t4, tk, t84, t85⟩, hk, hbl', H, hc⟩
    simp only at t1 t3 t4 tk t84 t85 H
    obtain ⟨m0, m1, m2⟩ := H.ld
    by_cases hlt : (k : Int) < zs.length
    · have hkl : k < zs.length := by omega
      obtain ⟨z, hzk⟩ : ∃ z, zs[k]? = some z := ⟨_, List.getElem?_eq_getElem hkl⟩
      have hdrop : zs.drop k = z :: zs.drop (k + 1) := by rw [List.drop_eq_getElem_cons hkl]; rw [List.getElem?_eq_getElem hkl] at hzk; cases hzk; rfl
      obtain ⟨a, ha, hix, hrow⟩ := row_at hz (k := k) (x := i z.1) (y := i z.2) (by rw [List.getElem?_map, hzk]; rfl)
      obtain ⟨hrow, r0, r1⟩ := hrow h (H.low a ha)
      obtain ⟨Ha, Hb, hn, hst, HB, d0, d1, d2⟩ := H.temp (i 0) (i 0) (i z.1) (i z.2) rfl rfl rfl
      cases c4 : (reachB z.1 z.2 bs').1 with
      | false =>
        rw [n41_44_eq, c2_seq]
        rw [n41_45_eq]
        repeat first | with_reducible refine vK_i (by (simp only [zz1, zz2, zz3, zz4, zz5, zz6, zz7, zz8, zz9, zz10, zz11, zz12, zz13, zz14, fa, blen, Nat.reduceEqDiff, reduceIte, decide_true, decide_false, Bool.not_true, Bool.not_false, Nat.zero_add, Nat.add_zero, binL_rem4, binL_rem256, binL_quo256, Option.map_some, ls, lz, m0, m1, m2, t1, t3, t4, tk, t84, t85, hlt, hix, hrow, r0, r1, hn, hst, d0, d1, c4]) <;> rfl) ?_
        repeat first | rw [then_normal] | rw [then_ret] | rw [then_exit] | rw [exit_normal] | rw [exit_ret] | rw [round_normal] | rw [round_exit] | rw [round_ret] | (rw [exit_exit]; simp only [Nat.reduceEqDiff, reduceIte])
        rw [n41_46_eq, c2_seq]
        rw [n41_47_eq]
        refine ifB_t (by (simp only [zz1, zz2, zz3, zz4, zz5, zz6, zz7, zz8, zz9, zz10, zz11, zz12, zz13, zz14, fa, blen, Nat.reduceEqDiff, reduceIte, decide_true, decide_false, Bool.not_true, Bool.not_false, Nat.zero_add, Nat.add_zero, binL_rem4, binL_rem256, binL_quo256, Option.map_some, ls, lz, m0, m1, m2, t1, t3, t4, tk, t84, t85, hlt, hix, hrow, r0, r1, hn, hst, d0, d1, c4]) <;> rfl) ?_
        rw [n41_48_eq, c2_skip]
        repeat first | rw [then_normal] | rw [then_ret] | rw [then_exit] | rw [exit_normal] | rw [exit_ret] | rw [round_normal] | rw [round_exit] | rw [round_ret] | (rw [exit_exit]; simp only [Nat.reduceEqDiff, reduceIte])
        rw [n41_50_eq, c2_seq]
        rw [n41_51_eq, c2_block]
        rw [n41_52_eq, c2_seq]
        rw [n41_53_eq]
        repeat first | with_reducible refine vK_i (by (simp only [zz1, zz2, zz3, zz4, zz5, zz6, zz7, zz8, zz9, zz10, zz11, zz12, zz13, zz14, fa, blen, Nat.reduceEqDiff, reduceIte, decide_true, decide_false, Bool.not_true, Bool.not_false, Nat.zero_add, Nat.add_zero, binL_rem4, binL_rem256, binL_quo256, Option.map_some, ls, lz, m0, m1, m2, t1, t3, t4, tk, t84, t85, hlt, hix, hrow, r0, r1, hn, hst, d0, d1, c4]) <;> rfl) ?_ | with_reducible refine oK_i (by (simp only [zz1, zz2, zz3, zz4, zz5, zz6, zz7, zz8, zz9, zz10, zz11, zz12, zz13, zz14, fa, blen, Nat.reduceEqDiff, reduceIte, decide_true, decide_false, Bool.not_true, Bool.not_false, Nat.zero_add, Nat.add_zero, binL_rem4, binL_rem256, binL_quo256, Option.map_some, ls, lz, m0, m1, m2, t1, t3, t4, tk, t84, t85, hlt, hix, hrow, r0, r1, hn, hst, d0, d1, c4]) <;> rfl) ?_ | with_reducible refine gK_i (by (simp only [zz1, zz2, zz3, zz4, zz5, zz6, zz7, zz8, zz9, zz10, zz11, zz12, zz13, zz14, fa, blen, Nat.reduceEqDiff, reduceIte, decide_true, decide_false, Bool.not_true, Bool.not_false, Nat.zero_add, Nat.add_zero, binL_rem4, binL_rem256, binL_quo256, Option.map_some, ls, lz, m0, m1, m2, t1, t3, t4, tk, t84, t85, hlt, hix, hrow, r0, r1, hn, hst, d0, d1, c4]) <;> rfl) ?_
        repeat first | rw [then_normal] | rw [then_ret] | rw [then_exit] | rw [exit_normal] | rw [exit_ret] | rw [round_normal] | rw [round_exit] | rw [round_ret] | (rw [exit_exit]; simp only [Nat.reduceEqDiff, reduceIte])
        rw [n41_54_eq, c2_seq]
        rw [n41_55_eq]
        repeat first | with_reducible refine vK_i (by (simp only [zz1, zz2, zz3, zz4, zz5, zz6, zz7, zz8, zz9, zz10, zz11, zz12, zz13, zz14, fa, blen, Nat.reduceEqDiff, reduceIte, decide_true, decide_false, Bool.not_true, Bool.not_false, Nat.zero_add, Nat.add_zero, binL_rem4, binL_rem256, binL_quo256, Option.map_some, ls, lz, m0, m1, m2, t1, t3, t4, tk, t84, t85, hlt, hix, hrow, r0, r1, hn, hst, d0, d1, c4]) <;> rfl) ?_
        refine ok_a (by simp only [put_at, Nat.reduceEqDiff, reduceIte, t3]) (reach_ok hbl' HB.seen (by decide) z.1 z.2) ?_
        rintro _ _ ⟨rfl, rfl⟩
        repeat first | with_reducible refine vK_i (by (simp only [zz1, zz2, zz3, zz4, zz5, zz6, zz7, zz8, zz9, zz10, zz11, zz12, zz13, zz14, fa, blen, Nat.reduceEqDiff, reduceIte, decide_true, decide_false, Bool.not_true, Bool.not_false, Nat.zero_add, Nat.add_zero, binL_rem4, binL_rem256, binL_quo256, Option.map_some, ls, lz, m0, m1, m2, t1, t3, t4, tk, t84, t85, hlt, hix, hrow, r0, r1, hn, hst, d0, d1, c4]) <;> rfl) ?_
        repeat first | rw [then_normal] | rw [then_ret] | rw [then_exit] | rw [exit_normal] | rw [exit_ret] | rw [round_normal] | rw [round_exit] | rw [round_ret] | (rw [exit_exit]; simp only [Nat.reduceEqDiff, reduceIte])
        rw [n41_56_eq]
        refine ifB_t (by (simp only [zz1, zz2, zz3, zz4, zz5, zz6, zz7, zz8, zz9, zz10, zz11, zz12, zz13, zz14, fa, blen, Nat.reduceEqDiff, reduceIte, decide_true, decide_false, Bool.not_true, Bool.not_false, Nat.zero_add, Nat.add_zero, binL_rem4, binL_rem256, binL_quo256, Option.map_some, ls, lz, m0, m1, m2, t1, t3, t4, tk, t84, t85, hlt, hix, hrow, r0, r1, hn, hst, d0, d1, c4]) <;> rfl) ?_
        rw [n41_57_eq, c2_seq]
        rw [n41_58_eq]
        skip
        repeat first | rw [then_normal] | rw [then_ret] | rw [then_exit] | rw [exit_normal] | rw [exit_ret] | rw [round_normal] | rw [round_exit] | rw [round_ret] | (rw [exit_exit]; simp only [Nat.reduceEqDiff, reduceIte])
        rw [n41_59_eq, c2_ret]
        repeat first | rw [then_normal] | rw [then_ret] | rw [then_exit] | rw [exit_normal] | rw [exit_ret] | rw [round_normal] | rw [round_exit] | rw [round_ret] | (rw [exit_exit]; simp only [Nat.reduceEqDiff, reduceIte])
        exact hend _ _ 230 _ _ rfl (by simp only [put_at, Nat.reduceEqDiff, reduceIte]) (by rw [hr, hc']; simp only [hc, hdrop, chkZeros, c4]; rfl)
      | true =>
        have hk1 : IntKind.i64.wrap ((k : Int) + 1) = ((k + 1 : Nat) : Int) := by rw [IntWalk.i64_in _ ⟨by omega, by omega⟩]; rfl
        rw [n41_44_eq, c2_seq]
        rw [n41_45_eq]
        repeat first | with_reducible refine vK_i (by (simp only [zz1, zz2, zz3, zz4, zz5, zz6, zz7, zz8, zz9, zz10, zz11, zz12, zz13, zz14, fa, blen, Nat.reduceEqDiff, reduceIte, decide_true, decide_false, Bool.not_true, Bool.not_false, Nat.zero_add, Nat.add_zero, binL_rem4, binL_rem256, binL_quo256, Option.map_some, ls, lz, m0, m1, m2, t1, t3, t4, tk, t84, t85, hlt, hix, hrow, r0, r1, hn, hst, d0, d1, c4, hk1]) <;> rfl) ?_
        repeat first | rw [then_normal] | rw [then_ret] | rw [then_exit] | rw [exit_normal] | rw [exit_ret] | rw [round_normal] | rw [round_exit] | rw [round_ret] | (rw [exit_exit]; simp only [Nat.reduceEqDiff, reduceIte])
        rw [n41_46_eq, c2_seq]
        rw [n41_47_eq]
        refine ifB_t (by (simp only [zz1, zz2, zz3, zz4, zz5, zz6, zz7, zz8, zz9, zz10, zz11, zz12, zz13, zz14, fa, blen, Nat.reduceEqDiff, reduceIte, decide_true, decide_false, Bool.not_true, Bool.not_false, Nat.zero_add, Nat.add_zero, binL_rem4, binL_rem256, binL_quo256, Option.map_some, ls, lz, m0, m1, m2, t1, t3, t4, tk, t84, t85, hlt, hix, hrow, r0, r1, hn, hst, d0, d1, c4, hk1]) <;> rfl) ?_
        rw [n41_48_eq, c2_skip]
        repeat first | rw [then_normal] | rw [then_ret] | rw [then_exit] | rw [exit_normal] | rw [exit_ret] | rw [round_normal] | rw [round_exit] | rw [round_ret] | (rw [exit_exit]; simp only [Nat.reduceEqDiff, reduceIte])
        rw [n41_50_eq, c2_seq]
        rw [n41_51_eq, c2_block]
        rw [n41_52_eq, c2_seq]
        rw [n41_53_eq]
        repeat first | with_reducible refine vK_i (by (simp only [zz1, zz2, zz3, zz4, zz5, zz6, zz7, zz8, zz9, zz10, zz11, zz12, zz13, zz14, fa, blen, Nat.reduceEqDiff, reduceIte, decide_true, decide_false, Bool.not_true, Bool.not_false, Nat.zero_add, Nat.add_zero, binL_rem4, binL_rem256, binL_quo256, Option.map_some, ls, lz, m0, m1, m2, t1, t3, t4, tk, t84, t85, hlt, hix, hrow, r0, r1, hn, hst, d0, d1, c4, hk1]) <;> rfl) ?_ | with_reducible refine oK_i (by (simp only [zz1, zz2, zz3, zz4, zz5, zz6, zz7, zz8, zz9, zz10, zz11, zz12, zz13, zz14, fa, blen, Nat.reduceEqDiff, reduceIte, decide_true, decide_false, Bool.not_true, Bool.not_false, Nat.zero_add, Nat.add_zero, binL_rem4, binL_rem256, binL_quo256, Option.map_some, ls, lz, m0, m1, m2, t1, t3, t4, tk, t84, t85, hlt, hix, hrow, r0, r1, hn, hst, d0, d1, c4, hk1]) <;> rfl) ?_ | with_reducible refine gK_i (by (simp only [zz1, zz2, zz3, zz4, zz5, zz6, zz7, zz8, zz9, zz10, zz11, zz12, zz13, zz14, fa, blen, Nat.reduceEqDiff, reduceIte, decide_true, decide_false, Bool.not_true, Bool.not_false, Nat.zero_add, Nat.add_zero, binL_rem4, binL_rem256, binL_quo256, Option.map_some, ls, lz, m0, m1, m2, t1, t3, t4, tk, t84, t85, hlt, hix, hrow, r0, r1, hn, hst, d0, d1, c4, hk1]) <;> rfl) ?_
        repeat first | rw [then_normal] | rw [then_ret] | rw [then_exit] | rw [exit_normal] | rw [exit_ret] | rw [round_normal] | rw [round_exit] | rw [round_ret] | (rw [exit_exit]; simp only [Nat.reduceEqDiff, reduceIte])
        rw [n41_54_eq, c2_seq]
        rw [n41_55_eq]
        repeat first | with_reducible refine vK_i (by (simp only [zz1, zz2, zz3, zz4, zz5, zz6, zz7, zz8, zz9, zz10, zz11, zz12, zz13, zz14, fa, blen, Nat.reduceEqDiff, reduceIte, decide_true, decide_false, Bool.not_true, Bool.not_false, Nat.zero_add, Nat.add_zero, binL_rem4, binL_rem256, binL_quo256, Option.map_some, ls, lz, m0, m1, m2, t1, t3, t4, tk, t84, t85, hlt, hix, hrow, r0, r1, hn, hst, d0, d1, c4, hk1]) <;> rfl) ?_
        refine ok_a (by simp only [put_at, Nat.reduceEqDiff, reduceIte, t3]) (reach_ok hbl' HB.seen (by decide) z.1 z.2) ?_
        rintro _ _ ⟨rfl, rfl⟩
        repeat first | with_reducible refine vK_i (by (simp only [zz1, zz2, zz3, zz4, zz5, zz6, zz7, zz8, zz9, zz10, zz11, zz12, zz13, zz14, fa, blen, Nat.reduceEqDiff, reduceIte, decide_true, decide_false, Bool.not_true, Bool.not_false, Nat.zero_add, Nat.add_zero, binL_rem4, binL_rem256, binL_quo256, Option.map_some, ls, lz, m0, m1, m2, t1, t3, t4, tk, t84, t85, hlt, hix, hrow, r0, r1, hn, hst, d0, d1, c4, hk1]) <;> rfl) ?_
        repeat first | rw [then_normal] | rw [then_ret] | rw [then_exit] | rw [exit_normal] | rw [exit_ret] | rw [round_normal] | rw [round_exit] | rw [round_ret] | (rw [exit_exit]; simp only [Nat.reduceEqDiff, reduceIte])
        rw [n41_56_eq]
        refine ifB_f (by (simp only [zz1, zz2, zz3, zz4, zz5, zz6, zz7, zz8, zz9, zz10, zz11, zz12, zz13, zz14, fa, blen, Nat.reduceEqDiff, reduceIte, decide_true, decide_false, Bool.not_true, Bool.not_false, Nat.zero_add, Nat.add_zero, binL_rem4, binL_rem256, binL_quo256, Option.map_some, ls, lz, m0, m1, m2, t1, t3, t4, tk, t84, t85, hlt, hix, hrow, r0, r1, hn, hst, d0, d1, c4, hk1]) <;> rfl) ?_
        rw [n41_60_eq, c2_skip]
        repeat first | rw [then_normal] | rw [then_ret] | rw [then_exit] | rw [exit_normal] | rw [exit_ret] | rw [round_normal] | rw [round_exit] | rw [round_ret] | (rw [exit_exit]; simp only [Nat.reduceEqDiff, reduceIte])
        rw [n41_61_eq]
        repeat first | with_reducible refine vK_i (by (simp only [zz1, zz2, zz3, zz4, zz5, zz6, zz7, zz8, zz9, zz10, zz11, zz12, zz13, zz14, fa, blen, Nat.reduceEqDiff, reduceIte, decide_true, decide_false, Bool.not_true, Bool.not_false, Nat.zero_add, Nat.add_zero, binL_rem4, binL_rem256, binL_quo256, Option.map_some, ls, lz, m0, m1, m2, t1, t3, t4, tk, t84, t85, hlt, hix, hrow, r0, r1, hn, hst, d0, d1, c4, hk1]) <;> rfl) ?_
        repeat first | rw [then_normal] | rw [then_ret] | rw [then_exit] | rw [exit_normal] | rw [exit_ret] | rw [round_normal] | rw [round_exit] | rw [round_ret] | (rw [exit_exit]; simp only [Nat.reduceEqDiff, reduceIte])
        refine ⟨⟨k + 1, (reachB z.1 z.2 bs').2, ⟨by simp only [put_at, Nat.reduceEqDiff, reduceIte, t1], by simp only [put_at, Nat.reduceEqDiff, reduceIte, t3], by simp only [put_at, Nat.reduceEqDiff, reduceIte, t4], by simp only [put_at, Nat.reduceEqDiff, reduceIte], by simp only [put_at, Nat.reduceEqDiff, reduceIte, t84], by simp only [put_at, Nat.reduceEqDiff, reduceIte, t85]⟩, by omega, by rw [reachB_len, hbl'], HB.mark _, ?_⟩, ?_⟩
        · rw [hc, hdrop, chkZeros, if_pos c4]
        · have hm : zs.length - (k + 1) < zs.length - k := by omega
          simp only [put_at, Nat.reduceEqDiff, reduceIte, tk, Int.toNat_natCast]
          exact hm
    · have hke : k = zs.length := by omega
      have hc2 : chkZeros zs bs = some bs' := by rw [hc, hke, List.drop_length]; rfl
      rw [n41_44_eq, c2_seq]
      rw [n41_45_eq]
      repeat first | with_reducible refine vK_i (by (simp only [zz1, zz2, zz3, zz4, zz5, zz6, zz7, zz8, zz9, zz10, zz11, zz12, zz13, zz14, fa, blen, Nat.reduceEqDiff, reduceIte, decide_true, decide_false, Bool.not_true, Bool.not_false, Nat.zero_add, Nat.add_zero, binL_rem4, binL_rem256, binL_quo256, Option.map_some, ls, lz, m0, m1, m2, t1, t3, t4, tk, t84, t85, hlt]) <;> rfl) ?_
      repeat first | rw [then_normal] | rw [then_ret] | rw [then_exit] | rw [exit_normal] | rw [exit_ret] | rw [round_normal] | rw [round_exit] | rw [round_ret] | (rw [exit_exit]; simp only [Nat.reduceEqDiff, reduceIte])
      rw [n41_46_eq, c2_seq]
      rw [n41_47_eq]
      refine ifB_f (by (simp only [zz1, zz2, zz3, zz4, zz5, zz6, zz7, zz8, zz9, zz10, zz11, zz12, zz13, zz14, fa, blen, Nat.reduceEqDiff, reduceIte, decide_true, decide_false, Bool.not_true, Bool.not_false, Nat.zero_add, Nat.add_zero, binL_rem4, binL_rem256, binL_quo256, Option.map_some, ls, lz, m0, m1, m2, t1, t3, t4, tk, t84, t85, hlt]) <;> rfl) ?_
      rw [n41_49_eq, c2_exit]
      repeat first | rw [then_normal] | rw [then_ret] | rw [then_exit] | rw [exit_normal] | rw [exit_ret] | rw [round_normal] | rw [round_exit] | rw [round_ret] | (rw [exit_exit]; simp only [Nat.reduceEqDiff, reduceIte])
      by_cases hbig : 16384 < headN segs.length zs.length + sumLen segs
      · skip
        rw [n41_62_eq, c2_seq]
        rw [n41_63_eq, c2_seq]
        rw [n41_64_eq]
        repeat first | with_reducible refine vK_i (by (simp only [zz1, zz2, zz3, zz4, zz5, zz6, zz7, zz8, zz9, zz10, zz11, zz12, zz13, zz14, fa, blen, Nat.reduceEqDiff, reduceIte, decide_true, decide_false, Bool.not_true, Bool.not_false, Nat.zero_add, Nat.add_zero, binL_rem4, binL_rem256, binL_quo256, Option.map_some, ls, lz, m0, m1, m2, t1, t3, t4, tk, t84, t85, hbig]) <;> rfl) ?_
        repeat first | rw [then_normal] | rw [then_ret] | rw [then_exit] | rw [exit_normal] | rw [exit_ret] | rw [round_normal] | rw [round_exit] | rw [round_ret] | (rw [exit_exit]; simp only [Nat.reduceEqDiff, reduceIte])
        rw [n41_65_eq]
        refine ifB_t (by (simp only [zz1, zz2, zz3, zz4, zz5, zz6, zz7, zz8, zz9, zz10, zz11, zz12, zz13, zz14, fa, blen, Nat.reduceEqDiff, reduceIte, decide_true, decide_false, Bool.not_true, Bool.not_false, Nat.zero_add, Nat.add_zero, binL_rem4, binL_rem256, binL_quo256, Option.map_some, ls, lz, m0, m1, m2, t1, t3, t4, tk, t84, t85, hbig]) <;> rfl) ?_
        rw [n41_66_eq, c2_seq]
        rw [n41_67_eq]
        skip
        repeat first | rw [then_normal] | rw [then_ret] | rw [then_exit] | rw [exit_normal] | rw [exit_ret] | rw [round_normal] | rw [round_exit] | rw [round_ret] | (rw [exit_exit]; simp only [Nat.reduceEqDiff, reduceIte])
        rw [n41_68_eq, c2_ret]
        repeat first | rw [then_normal] | rw [then_ret] | rw [then_exit] | rw [exit_normal] | rw [exit_ret] | rw [round_normal] | rw [round_exit] | rw [round_ret] | (rw [exit_exit]; simp only [Nat.reduceEqDiff, reduceIte])
        exact hend _ _ 230 _ _ rfl (by simp only [put_at, Nat.reduceEqDiff, reduceIte]) (by rw [hr, hc']; simp only [hc2]; rw [if_pos hbig])
      · skip
        rw [n41_62_eq, c2_seq]
        rw [n41_63_eq, c2_seq]
        rw [n41_64_eq]
        repeat first | with_reducible refine vK_i (by (simp only [zz1, zz2, zz3, zz4, zz5, zz6, zz7, zz8, zz9, zz10, zz11, zz12, zz13, zz14, fa, blen, Nat.reduceEqDiff, reduceIte, decide_true, decide_false, Bool.not_true, Bool.not_false, Nat.zero_add, Nat.add_zero, binL_rem4, binL_rem256, binL_quo256, Option.map_some, ls, lz, m0, m1, m2, t1, t3, t4, tk, t84, t85, hbig]) <;> rfl) ?_
        repeat first | rw [then_normal] | rw [then_ret] | rw [then_exit] | rw [exit_normal] | rw [exit_ret] | rw [round_normal] | rw [round_exit] | rw [round_ret] | (rw [exit_exit]; simp only [Nat.reduceEqDiff, reduceIte])
        rw [n41_65_eq]
        refine ifB_f (by (simp only [zz1, zz2, zz3, zz4, zz5, zz6, zz7, zz8, zz9, zz10, zz11, zz12, zz13, zz14, fa, blen, Nat.reduceEqDiff, reduceIte, decide_true, decide_false, Bool.not_true, Bool.not_false, Nat.zero_add, Nat.add_zero, binL_rem4, binL_rem256, binL_quo256, Option.map_some, ls, lz, m0, m1, m2, t1, t3, t4, tk, t84, t85, hbig]) <;> rfl) ?_
        rw [n41_69_eq, c2_skip]
        repeat first | rw [then_normal] | rw [then_ret] | rw [then_exit] | rw [exit_normal] | rw [exit_ret] | rw [round_normal] | rw [round_exit] | rw [round_ret] | (rw [exit_exit]; simp only [Nat.reduceEqDiff, reduceIte])
        rw [n41_70_eq, c2_seq]
        rw [n41_71_eq]
        skip
        repeat first | rw [then_normal] | rw [then_ret] | rw [then_exit] | rw [exit_normal] | rw [exit_ret] | rw [round_normal] | rw [round_exit] | rw [round_ret] | (rw [exit_exit]; simp only [Nat.reduceEqDiff, reduceIte])
        rw [n41_72_eq, c2_ret]
        repeat first | rw [then_normal] | rw [then_ret] | rw [then_exit] | rw [exit_normal] | rw [exit_ret] | rw [round_normal] | rw [round_exit] | rw [round_ret] | (rw [exit_exit]; simp only [Nat.reduceEqDiff, reduceIte])
        exact hend _ _ 0 _ _ rfl (by simp only [put_at, Nat.reduceEqDiff, reduceIte]) (by rw [hr, hc']; simp only [hc2]; rw [if_neg hbig])

end Go.Proofs.Ytaofgdibpbpalaa
