/-
  parapetref23.Check: what it tells of every image.
-/
import Derived.Test.YtaofgdibpbpalaaChkA
namespace Go.Proofs.Ytaofgdibpbpalaa
open Go.ChangeShapes Go.WideShapes Go.ChangeAt Go.RowKit Go.Lm
set_option linter.unusedSimpArgs false
variable {C : CallSem}
set_option maxRecDepth 10000 in
theorem mk_seen (g : LHeap) : makeSliceL Try.prog 120 (.int .i64 128) (.int .i64 128) g = some (.slice g.next 0 128 (.ex 128), g.alloc (.cells ((List.replicate 128 false).map .bool) .ex)) := by kernel_rfl

set_option maxRecDepth 1000000
/-! parapet/parapetref23.Check (120 slots) -/
noncomputable def n42_0 : Code := subC [] (bodyC Try.prog 42)
noncomputable def n42_1 : Code := subC [0] (bodyC Try.prog 42)
noncomputable def n42_2 : Code := subC [1] (bodyC Try.prog 42)
noncomputable def n42_3 : Code := subC [1, 0] (bodyC Try.prog 42)
noncomputable def n42_4 : Code := subC [1, 0, 0] (bodyC Try.prog 42)
noncomputable def n42_5 : Code := subC [1, 0, 1] (bodyC Try.prog 42)
noncomputable def n42_6 : Code := subC [1, 0, 1, 0] (bodyC Try.prog 42)
noncomputable def n42_7 : Code := subC [1, 0, 1, 0, 0] (bodyC Try.prog 42)
noncomputable def n42_8 : Code := subC [1, 0, 1, 0, 1] (bodyC Try.prog 42)
noncomputable def n42_9 : Code := subC [1, 0, 1, 1] (bodyC Try.prog 42)
noncomputable def n42_10 : Code := subC [1, 1] (bodyC Try.prog 42)
noncomputable def n42_11 : Code := subC [1, 1, 0] (bodyC Try.prog 42)
noncomputable def n42_12 : Code := subC [1, 1, 1] (bodyC Try.prog 42)
noncomputable def n42_13 : Code := subC [1, 1, 1, 0] (bodyC Try.prog 42)
noncomputable def n42_14 : Code := subC [1, 1, 1, 1] (bodyC Try.prog 42)
noncomputable def n42_15 : Code := subC [1, 1, 1, 1, 0] (bodyC Try.prog 42)
noncomputable def n42_16 : Code := subC [1, 1, 1, 1, 0, 0] (bodyC Try.prog 42)
noncomputable def n42_17 : Code := subC [1, 1, 1, 1, 0, 1] (bodyC Try.prog 42)
noncomputable def n42_18 : Code := subC [1, 1, 1, 1, 0, 1, 0] (bodyC Try.prog 42)
noncomputable def n42_19 : Code := subC [1, 1, 1, 1, 0, 1, 0, 0] (bodyC Try.prog 42)
noncomputable def n42_20 : Code := subC [1, 1, 1, 1, 0, 1, 0, 0, 0] (bodyC Try.prog 42)
noncomputable def n42_21 : Code := subC [1, 1, 1, 1, 0, 1, 0, 0, 0, 0] (bodyC Try.prog 42)
noncomputable def n42_22 : Code := subC [1, 1, 1, 1, 0, 1, 0, 0, 0, 1] (bodyC Try.prog 42)
noncomputable def n42_23 : Code := subC [1, 1, 1, 1, 0, 1, 0, 0, 0, 1, 0] (bodyC Try.prog 42)
noncomputable def n42_24 : Code := subC [1, 1, 1, 1, 0, 1, 0, 0, 0, 1, 1] (bodyC Try.prog 42)
noncomputable def n42_25 : Code := subC [1, 1, 1, 1, 0, 1, 0, 0, 1] (bodyC Try.prog 42)
noncomputable def n42_26 : Code := subC [1, 1, 1, 1, 0, 1, 0, 0, 1, 0] (bodyC Try.prog 42)
noncomputable def n42_27 : Code := subC [1, 1, 1, 1, 0, 1, 0, 0, 1, 0, 0] (bodyC Try.prog 42)
noncomputable def n42_28 : Code := subC [1, 1, 1, 1, 0, 1, 0, 0, 1, 0, 0, 0] (bodyC Try.prog 42)
noncomputable def n42_29 : Code := subC [1, 1, 1, 1, 0, 1, 0, 0, 1, 0, 0, 1] (bodyC Try.prog 42)
noncomputable def n42_30 : Code := subC [1, 1, 1, 1, 0, 1, 0, 0, 1, 0, 0, 1, 0] (bodyC Try.prog 42)
noncomputable def n42_31 : Code := subC [1, 1, 1, 1, 0, 1, 0, 0, 1, 0, 0, 1, 0, 0] (bodyC Try.prog 42)
noncomputable def n42_32 : Code := subC [1, 1, 1, 1, 0, 1, 0, 0, 1, 0, 0, 1, 0, 1] (bodyC Try.prog 42)
noncomputable def n42_33 : Code := subC [1, 1, 1, 1, 0, 1, 0, 0, 1, 0, 0, 1, 0, 1, 0] (bodyC Try.prog 42)
noncomputable def n42_34 : Code := subC [1, 1, 1, 1, 0, 1, 0, 0, 1, 0, 0, 1, 0, 1, 0, 0] (bodyC Try.prog 42)
noncomputable def n42_35 : Code := subC [1, 1, 1, 1, 0, 1, 0, 0, 1, 0, 0, 1, 0, 1, 0, 1] (bodyC Try.prog 42)
noncomputable def n42_36 : Code := subC [1, 1, 1, 1, 0, 1, 0, 0, 1, 0, 0, 1, 0, 1, 1] (bodyC Try.prog 42)
noncomputable def n42_37 : Code := subC [1, 1, 1, 1, 0, 1, 0, 0, 1, 0, 0, 1, 1] (bodyC Try.prog 42)
noncomputable def n42_38 : Code := subC [1, 1, 1, 1, 0, 1, 0, 0, 1, 1] (bodyC Try.prog 42)
noncomputable def n42_39 : Code := subC [1, 1, 1, 1, 1] (bodyC Try.prog 42)
noncomputable def n42_40 : Code := subC [1, 1, 1, 1, 1, 0] (bodyC Try.prog 42)
noncomputable def n42_41 : Code := subC [1, 1, 1, 1, 1, 0, 0] (bodyC Try.prog 42)
noncomputable def n42_42 : Code := subC [1, 1, 1, 1, 1, 0, 1] (bodyC Try.prog 42)
noncomputable def n42_43 : Code := subC [1, 1, 1, 1, 1, 0, 1, 0] (bodyC Try.prog 42)
noncomputable def n42_44 : Code := subC [1, 1, 1, 1, 1, 0, 1, 0, 0] (bodyC Try.prog 42)
noncomputable def n42_45 : Code := subC [1, 1, 1, 1, 1, 0, 1, 0, 0, 0] (bodyC Try.prog 42)
noncomputable def n42_46 : Code := subC [1, 1, 1, 1, 1, 0, 1, 0, 0, 0, 0] (bodyC Try.prog 42)
noncomputable def n42_47 : Code := subC [1, 1, 1, 1, 1, 0, 1, 0, 0, 0, 1] (bodyC Try.prog 42)
noncomputable def n42_48 : Code := subC [1, 1, 1, 1, 1, 0, 1, 0, 0, 0, 1, 0] (bodyC Try.prog 42)
noncomputable def n42_49 : Code := subC [1, 1, 1, 1, 1, 0, 1, 0, 0, 0, 1, 1] (bodyC Try.prog 42)
noncomputable def n42_50 : Code := subC [1, 1, 1, 1, 1, 0, 1, 0, 0, 1] (bodyC Try.prog 42)
noncomputable def n42_51 : Code := subC [1, 1, 1, 1, 1, 0, 1, 0, 0, 1, 0] (bodyC Try.prog 42)
noncomputable def n42_52 : Code := subC [1, 1, 1, 1, 1, 0, 1, 0, 0, 1, 0, 0] (bodyC Try.prog 42)
noncomputable def n42_53 : Code := subC [1, 1, 1, 1, 1, 0, 1, 0, 0, 1, 0, 0, 0] (bodyC Try.prog 42)
noncomputable def n42_54 : Code := subC [1, 1, 1, 1, 1, 0, 1, 0, 0, 1, 0, 0, 1] (bodyC Try.prog 42)
noncomputable def n42_55 : Code := subC [1, 1, 1, 1, 1, 0, 1, 0, 0, 1, 0, 0, 1, 0] (bodyC Try.prog 42)
noncomputable def n42_56 : Code := subC [1, 1, 1, 1, 1, 0, 1, 0, 0, 1, 0, 0, 1, 0, 0] (bodyC Try.prog 42)
noncomputable def n42_57 : Code := subC [1, 1, 1, 1, 1, 0, 1, 0, 0, 1, 0, 0, 1, 0, 1] (bodyC Try.prog 42)
noncomputable def n42_58 : Code := subC [1, 1, 1, 1, 1, 0, 1, 0, 0, 1, 0, 0, 1, 1] (bodyC Try.prog 42)
noncomputable def n42_59 : Code := subC [1, 1, 1, 1, 1, 0, 1, 0, 0, 1, 1] (bodyC Try.prog 42)
noncomputable def n42_60 : Code := subC [1, 1, 1, 1, 1, 1] (bodyC Try.prog 42)
noncomputable def n42_61 : Code := subC [1, 1, 1, 1, 1, 1, 0] (bodyC Try.prog 42)
noncomputable def n42_62 : Code := subC [1, 1, 1, 1, 1, 1, 0, 0] (bodyC Try.prog 42)
noncomputable def n42_63 : Code := subC [1, 1, 1, 1, 1, 1, 0, 1] (bodyC Try.prog 42)
noncomputable def n42_64 : Code := subC [1, 1, 1, 1, 1, 1, 0, 1, 0] (bodyC Try.prog 42)
noncomputable def n42_65 : Code := subC [1, 1, 1, 1, 1, 1, 0, 1, 0, 0] (bodyC Try.prog 42)
noncomputable def n42_66 : Code := subC [1, 1, 1, 1, 1, 1, 0, 1, 0, 1] (bodyC Try.prog 42)
noncomputable def n42_67 : Code := subC [1, 1, 1, 1, 1, 1, 0, 1, 1] (bodyC Try.prog 42)
noncomputable def n42_68 : Code := subC [1, 1, 1, 1, 1, 1, 1] (bodyC Try.prog 42)
noncomputable def n42_69 : Code := subC [1, 1, 1, 1, 1, 1, 1, 0] (bodyC Try.prog 42)
noncomputable def n42_70 : Code := subC [1, 1, 1, 1, 1, 1, 1, 1] (bodyC Try.prog 42)
theorem n42_0_eq : n42_0 = .seq n42_1 n42_2 := nr (by kernel_rfl)
theorem n42_1_eq (K : LEx → LSt → Prop) (tm : Nat → LV) (g : LHeap) : code2 Try.prog C n42_1 ⟨tm, g⟩ K = (
    oK (newL (tm 0) g) fun t1 g =>
    K .normal ⟨(putL (putL tm (some 1) t1) (some 2) (.int .i64 (0))), g⟩) := nr (by kernel_rfl)
theorem n42_2_eq : n42_2 = .seq n42_3 n42_10 := nr (by kernel_rfl)
theorem n42_3_eq : n42_3 = .seq n42_4 n42_5 := nr (by kernel_rfl)
theorem n42_4_eq (K : LEx → LSt → Prop) (tm : Nat → LV) (g : LHeap) : code2 Try.prog C n42_4 ⟨tm, g⟩ K = (
    vK (fieldAddrL 1 (tm 1)) fun t8 =>
    vK (loadV none t8 g) fun t9 =>
    oK (builtinL Try.prog .len [24] [t9] g) fun t10 g =>
    vK (binL Try.prog .gtr 3 true t10 (.int .i64 (16))) fun t11 =>
    gd t11 false g (fun K => vK (fieldAddrL 2 (tm 1)) fun v => K v g) fun t13 g =>
    gd t11 false g (fun K => vK (loadV none t13 g) fun v => K v g) fun t14 g =>
    gd t11 false g (fun K => oK (builtinL Try.prog .len [25] [t14] g) K) fun t15 g =>
    gd t11 false g (fun K => vK (binL Try.prog .gtr 3 true t15 (.int .i64 (16))) fun v => K v g) fun t16 g =>
    vK (pickL t11 (.bool true) t16) fun t17 =>
    gd t17 false g (fun K => vK (fieldAddrL 0 (tm 1)) fun v => K v g) fun t19 g =>
    gd t17 false g (fun K => vK (loadV none t19 g) fun v => K v g) fun t20 g =>
    gd t17 false g (fun K => vK (binL Try.prog .lss 3 true t20 (.int .i64 (0))) fun v => K v g) fun t21 g =>
    vK (pickL t17 (.bool true) t21) fun t22 =>
    gd t22 false g (fun K => vK (fieldAddrL 0 (tm 1)) fun v => K v g) fun t24 g =>
    gd t22 false g (fun K => vK (loadV none t24 g) fun v => K v g) fun t25 g =>
    gd t22 false g (fun K => vK (binL Try.prog .gtr 3 true t25 (.int .i64 (65535))) fun v => K v g) fun t26 g =>
    vK (pickL t22 (.bool true) t26) fun t27 =>
    gd t27 false g (fun K => vK (fieldAddrL 0 (tm 1)) fun v => K v g) fun t29 g =>
    gd t27 false g (fun K => vK (loadV none t29 g) fun v => K v g) fun t30 g =>
    gd t27 false g (fun K => vK (binL Try.prog .rem 3 true t30 (.int .i64 (4))) fun v => K v g) fun t31 g =>
    gd t27 false g (fun K => vK (binL Try.prog .neq 3 true t31 (.int .i64 (0))) fun v => K v g) fun t32 g =>
    vK (pickL t27 (.bool true) t32) fun t33 =>
    K .normal ⟨(putL (putL (putL (putL (putL (putL (putL (putL (putL (putL (putL (putL (putL (putL (putL (putL (putL (putL (putL (putL (putL (putL (putL (putL (putL (putL tm (some 8) t8) (some 9) t9) (some 10) t10) (some 11) t11) (some 12) t11) (some 13) t13) (some 14) t14) (some 15) t15) (some 16) t16) (some 17) t17) (some 18) t17) (some 19) t19) (some 20) t20) (some 21) t21) (some 22) t22) (some 23) t22) (some 24) t24) (some 25) t25) (some 26) t26) (some 27) t27) (some 28) t27) (some 29) t29) (some 30) t30) (some 31) t31) (some 32) t32) (some 33) t33), g⟩) := nr (by kernel_rfl)
theorem n42_5_eq (K : LEx → LSt → Prop) (tm : Nat → LV) (g : LHeap) : code2 Try.prog C n42_5 ⟨tm, g⟩ K = ifB (tm 33) (code2 Try.prog C n42_6 ⟨tm, g⟩ K) (code2 Try.prog C n42_9 ⟨tm, g⟩ K) := nr (by kernel_rfl)
theorem n42_6_eq : n42_6 = .seq n42_7 n42_8 := nr (by kernel_rfl)
theorem n42_7_eq (K : LEx → LSt → Prop) (tm : Nat → LV) (g : LHeap) : code2 Try.prog C n42_7 ⟨tm, g⟩ K = (
    K .normal ⟨(putL tm (some 2) (.int .i64 (230))), g⟩) := nr (by kernel_rfl)
theorem n42_8_eq : n42_8 = .ret := nr (by kernel_rfl)
theorem n42_9_eq : n42_9 = .skip := nr (by kernel_rfl)
theorem n42_10_eq : n42_10 = .seq n42_11 n42_12 := nr (by kernel_rfl)
theorem n42_11_eq (K : LEx → LSt → Prop) (tm : Nat → LV) (g : LHeap) : code2 Try.prog C n42_11 ⟨tm, g⟩ K = (
    oK (makeSliceL Try.prog 120 (.int .i64 (128)) (.int .i64 (128)) g) fun t34 g =>
    K .normal ⟨(putL (putL tm (some 34) t34) (some 3) t34), g⟩) := nr (by kernel_rfl)
theorem n42_12_eq : n42_12 = .seq n42_13 n42_14 := nr (by kernel_rfl)
theorem n42_13_eq (K : LEx → LSt → Prop) (tm : Nat → LV) (g : LHeap) : code2 Try.prog C n42_13 ⟨tm, g⟩ K = (
    vK (fieldAddrL 1 (tm 1)) fun t35 =>
    vK (loadV none t35 g) fun t36 =>
    oK (builtinL Try.prog .len [24] [t36] g) fun t37 g =>
    vK (binL Try.prog .mul 3 true (.int .i64 (4)) t37) fun t38 =>
    vK (binL Try.prog .add 3 true (.int .i64 (10)) t38) fun t39 =>
    vK (fieldAddrL 2 (tm 1)) fun t40 =>
    vK (loadV none t40 g) fun t41 =>
    oK (builtinL Try.prog .len [25] [t41] g) fun t42 g =>
    vK (binL Try.prog .mul 3 true (.int .i64 (4)) t42) fun t43 =>
    vK (binL Try.prog .add 3 false t39 t43) fun t44 =>
    K .normal ⟨(putL (putL (putL (putL (putL (putL (putL (putL (putL (putL (putL tm (some 35) t35) (some 36) t36) (some 37) t37) (some 38) t38) (some 39) t39) (some 40) t40) (some 41) t41) (some 42) t42) (some 43) t43) (some 44) t44) (some 4) t44), g⟩) := nr (by kernel_rfl)
theorem n42_14_eq : n42_14 = .seq n42_15 n42_39 := nr (by kernel_rfl)
theorem n42_15_eq : n42_15 = .seq n42_16 n42_17 := nr (by kernel_rfl)
theorem n42_16_eq (K : LEx → LSt → Prop) (tm : Nat → LV) (g : LHeap) : code2 Try.prog C n42_16 ⟨tm, g⟩ K = (
    K .normal ⟨(putL tm (some 5) (.int .i64 (0))), g⟩) := nr (by kernel_rfl)
theorem n42_17_eq : n42_17 = .block 0 n42_18 := nr (by kernel_rfl)
theorem n42_18_eq : n42_18 = .loop n42_19 := nr (by kernel_rfl)
theorem n42_19_eq : n42_19 = .seq n42_20 n42_25 := nr (by kernel_rfl)
theorem n42_20_eq : n42_20 = .seq n42_21 n42_22 := nr (by kernel_rfl)
theorem n42_21_eq (K : LEx → LSt → Prop) (tm : Nat → LV) (g : LHeap) : code2 Try.prog C n42_21 ⟨tm, g⟩ K = (
    vK (fieldAddrL 1 (tm 1)) fun t46 =>
    vK (loadV none t46 g) fun t47 =>
    oK (builtinL Try.prog .len [24] [t47] g) fun t48 g =>
    vK (binL Try.prog .lss 3 false (tm 5) t48) fun t49 =>
    K .normal ⟨(putL (putL (putL (putL (putL tm (some 45) (tm 5)) (some 46) t46) (some 47) t47) (some 48) t48) (some 49) t49), g⟩) := nr (by kernel_rfl)
theorem n42_22_eq (K : LEx → LSt → Prop) (tm : Nat → LV) (g : LHeap) : code2 Try.prog C n42_22 ⟨tm, g⟩ K = ifB (tm 49) (code2 Try.prog C n42_23 ⟨tm, g⟩ K) (code2 Try.prog C n42_24 ⟨tm, g⟩ K) := nr (by kernel_rfl)
theorem n42_23_eq : n42_23 = .skip := nr (by kernel_rfl)
theorem n42_24_eq : n42_24 = .exit 0 := nr (by kernel_rfl)
theorem n42_25_eq : n42_25 = .seq n42_26 n42_38 := nr (by kernel_rfl)
theorem n42_26_eq : n42_26 = .block 1 n42_27 := nr (by kernel_rfl)
theorem n42_27_eq : n42_27 = .seq n42_28 n42_29 := nr (by kernel_rfl)
theorem n42_28_eq (K : LEx → LSt → Prop) (tm : Nat → LV) (g : LHeap) : code2 Try.prog C n42_28 ⟨tm, g⟩ K = (
    vK (fieldAddrL 1 (tm 1)) fun t52 =>
    vK (loadV none t52 g) fun t53 =>
    vK (ixAddrL none 2 t53 (tm 5)) fun t55 =>
    vK (loadV (some 2) t55 g) fun t56 =>
    oK (newL (.agg [(.int .i64 (0)), .nils]) g) fun t6 g =>
    gK (storeV 2 t6 t56 g) fun g =>
    K .normal ⟨(putL (putL (putL (putL (putL (putL tm (some 52) t52) (some 53) t53) (some 54) (tm 5)) (some 55) t55) (some 56) t56) (some 6) t6), g⟩) := nr (by kernel_rfl)
theorem n42_29_eq : n42_29 = .seq n42_30 n42_37 := nr (by kernel_rfl)
theorem n42_30_eq : n42_30 = .seq n42_31 n42_32 := nr (by kernel_rfl)
theorem n42_31_eq (K : LEx → LSt → Prop) (tm : Nat → LV) (g : LHeap) : code2 Try.prog C n42_31 ⟨tm, g⟩ K = (
    vK (fieldAddrL 0 (tm 6)) fun t57 =>
    vK (loadV none t57 g) fun t58 =>
    vK (binL Try.prog .lss 3 true t58 (.int .i64 (0))) fun t59 =>
    gd t59 false g (fun K => vK (fieldAddrL 0 (tm 6)) fun v => K v g) fun t61 g =>
    gd t59 false g (fun K => vK (loadV none t61 g) fun v => K v g) fun t62 g =>
    gd t59 false g (fun K => vK (binL Try.prog .rem 3 true t62 (.int .i64 (256))) fun v => K v g) fun t63 g =>
    gd t59 false g (fun K => vK (binL Try.prog .neq 3 true t63 (.int .i64 (0))) fun v => K v g) fun t64 g =>
    vK (pickL t59 (.bool true) t64) fun t65 =>
    gd t65 false g (fun K => vK (fieldAddrL 1 (tm 6)) fun v => K v g) fun t67 g =>
    gd t65 false g (fun K => vK (loadV none t67 g) fun v => K v g) fun t68 g =>
    gd t65 false g (fun K => oK (builtinL Try.prog .len [23] [t68] g) K) fun t69 g =>
    gd t65 false g (fun K => vK (binL Try.prog .lss 3 true t69 (.int .i64 (1))) fun v => K v g) fun t70 g =>
    vK (pickL t65 (.bool true) t70) fun t71 =>
    gd t71 false g (fun K => vK (fieldAddrL 1 (tm 6)) fun v => K v g) fun t73 g =>
    gd t71 false g (fun K => vK (loadV none t73 g) fun v => K v g) fun t74 g =>
    gd t71 false g (fun K => oK (builtinL Try.prog .len [23] [t74] g) K) fun t75 g =>
    gd t71 false g (fun K => vK (binL Try.prog .gtr 3 true t75 (.int .i64 (16384))) fun v => K v g) fun t76 g =>
    vK (pickL t71 (.bool true) t76) fun t77 =>
    gd t77 false g (fun K => K (tm 3) g) fun t79 g =>
    gd t77 false g (fun K => vK (fieldAddrL 0 (tm 6)) fun v => K v g) fun t80 g =>
    gd t77 false g (fun K => vK (loadV none t80 g) fun v => K v g) fun t81 g =>
    gd t77 false g (fun K => vK (binL Try.prog .quo 3 true t81 (.int .i64 (256))) fun v => K v g) fun t82 g =>
    gd t77 false g (fun K => vK (fieldAddrL 1 (tm 6)) fun v => K v g) fun t83 g =>
    gd t77 false g (fun K => vK (loadV none t83 g) fun v => K v g) fun t84 g =>
    gd t77 false g (fun K => oK (builtinL Try.prog .len [23] [t84] g) K) fun t85 g =>
    gd t77 false g (fun K => vK (binL Try.prog .add 3 true t85 (.int .i64 (255))) fun v => K v g) fun t86 g =>
    gd t77 false g (fun K => vK (binL Try.prog .quo 3 true t86 (.int .i64 (256))) fun v => K v g) fun t87 g =>
    gd t77 false g (fun K => C 70 [t79, t82, t87] g K) fun t88 g =>
    gd t77 false g (fun K => vK (unL .not t88) fun v => K v g) fun t89 g =>
    vK (pickL t77 (.bool true) t89) fun t90 =>
    K .normal ⟨(putL (putL (putL (putL (putL (putL (putL (putL (putL (putL (putL (putL (putL (putL (putL (putL (putL (putL (putL (putL (putL (putL (putL (putL (putL (putL (putL (putL (putL (putL (putL (putL (putL (putL tm (some 57) t57) (some 58) t58) (some 59) t59) (some 60) t59) (some 61) t61) (some 62) t62) (some 63) t63) (some 64) t64) (some 65) t65) (some 66) t65) (some 67) t67) (some 68) t68) (some 69) t69) (some 70) t70) (some 71) t71) (some 72) t71) (some 73) t73) (some 74) t74) (some 75) t75) (some 76) t76) (some 77) t77) (some 78) t77) (some 79) t79) (some 80) t80) (some 81) t81) (some 82) t82) (some 83) t83) (some 84) t84) (some 85) t85) (some 86) t86) (some 87) t87) (some 88) t88) (some 89) t89) (some 90) t90), g⟩) := nr (by kernel_rfl)
theorem n42_32_eq (K : LEx → LSt → Prop) (tm : Nat → LV) (g : LHeap) : code2 Try.prog C n42_32 ⟨tm, g⟩ K = ifB (tm 90) (code2 Try.prog C n42_33 ⟨tm, g⟩ K) (code2 Try.prog C n42_36 ⟨tm, g⟩ K) := nr (by kernel_rfl)
theorem n42_33_eq : n42_33 = .seq n42_34 n42_35 := nr (by kernel_rfl)
theorem n42_34_eq (K : LEx → LSt → Prop) (tm : Nat → LV) (g : LHeap) : code2 Try.prog C n42_34 ⟨tm, g⟩ K = (
    K .normal ⟨(putL tm (some 2) (.int .i64 (230))), g⟩) := nr (by kernel_rfl)
theorem n42_35_eq : n42_35 = .ret := nr (by kernel_rfl)
theorem n42_36_eq : n42_36 = .skip := nr (by kernel_rfl)
theorem n42_37_eq (K : LEx → LSt → Prop) (tm : Nat → LV) (g : LHeap) : code2 Try.prog C n42_37 ⟨tm, g⟩ K = (
    vK (fieldAddrL 1 (tm 6)) fun t92 =>
    vK (loadV none t92 g) fun t93 =>
    oK (builtinL Try.prog .len [23] [t93] g) fun t94 g =>
    vK (binL Try.prog .add 3 false (tm 4) t94) fun t95 =>
    K .normal ⟨(putL (putL (putL (putL (putL (putL tm (some 91) (tm 4)) (some 92) t92) (some 93) t93) (some 94) t94) (some 95) t95) (some 4) t95), g⟩) := nr (by kernel_rfl)
theorem n42_38_eq (K : LEx → LSt → Prop) (tm : Nat → LV) (g : LHeap) : code2 Try.prog C n42_38 ⟨tm, g⟩ K = (
    vK (binL Try.prog .add 3 true (tm 5) (.int .i64 (1))) fun t51 =>
    K .normal ⟨(putL (putL (putL tm (some 50) (tm 5)) (some 51) t51) (some 5) t51), g⟩) := nr (by kernel_rfl)
theorem n42_39_eq : n42_39 = .seq n42_40 n42_60 := nr (by kernel_rfl)
theorem n42_40_eq : n42_40 = .seq n42_41 n42_42 := nr (by kernel_rfl)
theorem n42_41_eq (K : LEx → LSt → Prop) (tm : Nat → LV) (g : LHeap) : code2 Try.prog C n42_41 ⟨tm, g⟩ K = (
    K .normal ⟨(putL tm (some 7) (.int .i64 (0))), g⟩) := nr (by kernel_rfl)
theorem n42_42_eq : n42_42 = .block 2 n42_43 := nr (by kernel_rfl)
theorem n42_43_eq : n42_43 = .loop n42_44 := nr (by kernel_rfl)
theorem n42_44_eq : n42_44 = .seq n42_45 n42_50 := nr (by kernel_rfl)
theorem n42_45_eq : n42_45 = .seq n42_46 n42_47 := nr (by kernel_rfl)
theorem n42_46_eq (K : LEx → LSt → Prop) (tm : Nat → LV) (g : LHeap) : code2 Try.prog C n42_46 ⟨tm, g⟩ K = (
    vK (fieldAddrL 2 (tm 1)) fun t97 =>
    vK (loadV none t97 g) fun t98 =>
    oK (builtinL Try.prog .len [25] [t98] g) fun t99 g =>
    vK (binL Try.prog .lss 3 false (tm 7) t99) fun t100 =>
    K .normal ⟨(putL (putL (putL (putL (putL tm (some 96) (tm 7)) (some 97) t97) (some 98) t98) (some 99) t99) (some 100) t100), g⟩) := nr (by kernel_rfl)
theorem n42_47_eq (K : LEx → LSt → Prop) (tm : Nat → LV) (g : LHeap) : code2 Try.prog C n42_47 ⟨tm, g⟩ K = ifB (tm 100) (code2 Try.prog C n42_48 ⟨tm, g⟩ K) (code2 Try.prog C n42_49 ⟨tm, g⟩ K) := nr (by kernel_rfl)
theorem n42_48_eq : n42_48 = .skip := nr (by kernel_rfl)
theorem n42_49_eq : n42_49 = .exit 2 := nr (by kernel_rfl)
theorem n42_50_eq : n42_50 = .seq n42_51 n42_59 := nr (by kernel_rfl)
theorem n42_51_eq : n42_51 = .block 3 n42_52 := nr (by kernel_rfl)
theorem n42_52_eq : n42_52 = .seq n42_53 n42_54 := nr (by kernel_rfl)
theorem n42_53_eq (K : LEx → LSt → Prop) (tm : Nat → LV) (g : LHeap) : code2 Try.prog C n42_53 ⟨tm, g⟩ K = (
    vK (fieldAddrL 2 (tm 1)) fun t104 =>
    vK (loadV none t104 g) fun t105 =>
    vK (ixAddrL none 2 t105 (tm 7)) fun t107 =>
    vK (fieldAddrL 0 t107) fun t108 =>
    vK (loadV none t108 g) fun t109 =>
    vK (fieldAddrL 2 (tm 1)) fun t110 =>
    vK (loadV none t110 g) fun t111 =>
    vK (ixAddrL none 2 t111 (tm 7)) fun t113 =>
    vK (fieldAddrL 1 t113) fun t114 =>
    vK (loadV none t114 g) fun t115 =>
    ((C 70 [(tm 3), t109, t115] g fun t116 g =>
    
    vK (unL .not t116) fun t117 =>
    K .normal ⟨(putL (putL (putL (putL (putL (putL (putL (putL (putL (putL (putL (putL (putL (putL (putL tm (some 103) (tm 3)) (some 104) t104) (some 105) t105) (some 106) (tm 7)) (some 107) t107) (some 108) t108) (some 109) t109) (some 110) t110) (some 111) t111) (some 112) (tm 7)) (some 113) t113) (some 114) t114) (some 115) t115) (some 116) t116) (some 117) t117), g⟩) ∧ True)) := nr (by kernel_rfl)
theorem n42_54_eq (K : LEx → LSt → Prop) (tm : Nat → LV) (g : LHeap) : code2 Try.prog C n42_54 ⟨tm, g⟩ K = ifB (tm 117) (code2 Try.prog C n42_55 ⟨tm, g⟩ K) (code2 Try.prog C n42_58 ⟨tm, g⟩ K) := nr (by kernel_rfl)
theorem n42_55_eq : n42_55 = .seq n42_56 n42_57 := nr (by kernel_rfl)
theorem n42_56_eq (K : LEx → LSt → Prop) (tm : Nat → LV) (g : LHeap) : code2 Try.prog C n42_56 ⟨tm, g⟩ K = (
    K .normal ⟨(putL tm (some 2) (.int .i64 (230))), g⟩) := nr (by kernel_rfl)
theorem n42_57_eq : n42_57 = .ret := nr (by kernel_rfl)
theorem n42_58_eq : n42_58 = .skip := nr (by kernel_rfl)
theorem n42_59_eq (K : LEx → LSt → Prop) (tm : Nat → LV) (g : LHeap) : code2 Try.prog C n42_59 ⟨tm, g⟩ K = (
    vK (binL Try.prog .add 3 true (tm 7) (.int .i64 (1))) fun t102 =>
    K .normal ⟨(putL (putL (putL tm (some 101) (tm 7)) (some 102) t102) (some 7) t102), g⟩) := nr (by kernel_rfl)
theorem n42_60_eq : n42_60 = .seq n42_61 n42_68 := nr (by kernel_rfl)
theorem n42_61_eq : n42_61 = .seq n42_62 n42_63 := nr (by kernel_rfl)
theorem n42_62_eq (K : LEx → LSt → Prop) (tm : Nat → LV) (g : LHeap) : code2 Try.prog C n42_62 ⟨tm, g⟩ K = (
    vK (binL Try.prog .gtr 3 true (tm 4) (.int .i64 (16384))) fun t119 =>
    K .normal ⟨(putL (putL tm (some 118) (tm 4)) (some 119) t119), g⟩) := nr (by kernel_rfl)
theorem n42_63_eq (K : LEx → LSt → Prop) (tm : Nat → LV) (g : LHeap) : code2 Try.prog C n42_63 ⟨tm, g⟩ K = ifB (tm 119) (code2 Try.prog C n42_64 ⟨tm, g⟩ K) (code2 Try.prog C n42_67 ⟨tm, g⟩ K) := nr (by kernel_rfl)
theorem n42_64_eq : n42_64 = .seq n42_65 n42_66 := nr (by kernel_rfl)
theorem n42_65_eq (K : LEx → LSt → Prop) (tm : Nat → LV) (g : LHeap) : code2 Try.prog C n42_65 ⟨tm, g⟩ K = (
    K .normal ⟨(putL tm (some 2) (.int .i64 (230))), g⟩) := nr (by kernel_rfl)
theorem n42_66_eq : n42_66 = .ret := nr (by kernel_rfl)
theorem n42_67_eq : n42_67 = .skip := nr (by kernel_rfl)
theorem n42_68_eq : n42_68 = .seq n42_69 n42_70 := nr (by kernel_rfl)
theorem n42_69_eq (K : LEx → LSt → Prop) (tm : Nat → LV) (g : LHeap) : code2 Try.prog C n42_69 ⟨tm, g⟩ K = (
    K .normal ⟨(putL tm (some 2) (.int .i64 (0))), g⟩) := nr (by kernel_rfl)
theorem n42_70_eq : n42_70 = .ret := nr (by kernel_rfl)

set_option maxRecDepth 5000
set_option maxRecDepth 1000000 in
theorem fine42 : fineF Try.prog 42 = true := by kernel_rfl
theorem res42 (tm : Nat → LV) (g : LHeap) : resL Try.prog tm g Try.f42.results.toList = some [tm 2] := by kernel_rfl
theorem len42 : 1 ≤ Try.f42.ntmps := Nat.le_of_ble_eq_true (by kernel_rfl)
set_option maxHeartbeats 4000000 in
theorem refcheck_any {g : LHeap} {SV ZV : LV} {segs : List (Int × LV)} {zs : List (Int × Int)} (en : Int) (hs : RowsAt g SV (segs.map segRow)) (hz : RowsAt g ZV (zs.map zeroRow)) (hb : ∀ s ∈ segs, IsB s.2) :
    Ok Try.prog 42 [.agg [i en, SV, ZV]] g fun v _ => v = i (checkN en segs zs) := by
  refine ok_fn Try.mixed Try.func42 fine42 len42 ?_
  rw [show bodyC Try.prog 42 = n42_0 from by kernel_rfl]
  have s0 : startL [.agg [i en, SV, ZV]] 0 = .agg [i en, SV, ZV] := rfl
  generalize startL [.agg [i en, SV, ZV]] = tm at s0
  have hend : ∀ (tm : Nat → LV) (g' : LHeap) (b : Int) (e : LEx) (K : LV → LHeap → Prop), e = .ret → tm 2 = i b → K (i b) g' → endL Try.prog Try.f42 K e ⟨tm, g'⟩ := by
    intro tm g' b e K he h hk
    subst he
    simp only [endL, res42, h]
    exact hk
  have cellSV : SV.cell = true := by rcases hs.2 with ⟨_, rfl | ⟨a, rfl⟩⟩ | ⟨a, cap, rfl, _⟩ <;> rfl
  have cellZV : ZV.cell = true := by rcases hz.2 with ⟨_, rfl | ⟨a, rfl⟩⟩ | ⟨a, cap, rfl, _⟩ <;> rfl
  have hcell : (LV.agg [i en, SV, ZV]).cellsOK = true := by
    simp only [LV.cellsOK, LV.cells, List.all_cons, List.all_nil, cellSV, cellZV, Bool.and_true]; rfl
  obtain ⟨G1, hG1, i1, low1, nx1⟩ : ∃ G1, newL (.agg [i en, SV, ZV]) g = some (.ptr g.next 0, G1) ∧ G1.get g.next = some (.cells [i en, SV, ZV] .ex) ∧ (∀ j, j < g.next → G1.get j = g.get j) ∧ G1.next = g.next + 1 := by
    refine ⟨g.alloc (.cells [i en, SV, ZV] .ex), by rw [newL, if_pos hcell]; rfl, by simp, fun j hj => ?_, rfl⟩
    rw [LHeap.get_alloc, if_neg (by omega)]
  have l0 : loadV none (.ptr g.next 0) G1 = some (i en) := by simp [loadV, i1]
  have l1 : loadV none (.ptr g.next 1) G1 = some SV := by simp [loadV, i1]
  have l2 : loadV none (.ptr g.next 2) G1 = some ZV := by simp [loadV, i1]
  have ls : ∀ h, lenL Try.prog 24 SV h = some (i segs.length) := fun h => by rw [len_rows u24 hs, List.length_map]
  have lz : ∀ h, lenL Try.prog 25 ZV h = some (i zs.length) := fun h => by rw [len_rows u25 hz, List.length_map]
  by_cases h1 : (16 : Int) < segs.length
  · have hr : checkN en segs zs = 230 := if_pos (.inl h1)
    rw [n42_0_eq, c2_seq]
    rw [n42_1_eq]
    repeat first | with_reducible refine oK_i (by (simp only [zz1, zz2, zz3, zz4, zz5, zz6, zz7, zz8, zz9, zz10, zz11, zz12, zz13, zz14, fa, blen, Nat.reduceEqDiff, reduceIte, decide_true, decide_false, Bool.not_true, Bool.not_false, Nat.zero_add, Nat.add_zero, binL_rem4, binL_rem256, binL_quo256, s0, hG1, l0, l1, l2, ls, lz, Option.map_some, h1]) <;> rfl) ?_
    repeat first | rw [then_normal] | rw [then_ret] | rw [then_exit] | rw [exit_normal] | rw [exit_ret] | rw [round_normal] | rw [round_exit] | rw [round_ret] | (rw [exit_exit]; simp only [Nat.reduceEqDiff, reduceIte])
    rw [n42_2_eq, c2_seq]
    rw [n42_3_eq, c2_seq]
    rw [n42_4_eq]
    repeat first | with_reducible refine vK_i (by (simp only [zz1, zz2, zz3, zz4, zz5, zz6, zz7, zz8, zz9, zz10, zz11, zz12, zz13, zz14, fa, blen, Nat.reduceEqDiff, reduceIte, decide_true, decide_false, Bool.not_true, Bool.not_false, Nat.zero_add, Nat.add_zero, binL_rem4, binL_rem256, binL_quo256, s0, hG1, l0, l1, l2, ls, lz, Option.map_some, h1]) <;> rfl) ?_ | with_reducible refine oK_i (by (simp only [zz1, zz2, zz3, zz4, zz5, zz6, zz7, zz8, zz9, zz10, zz11, zz12, zz13, zz14, fa, blen, Nat.reduceEqDiff, reduceIte, decide_true, decide_false, Bool.not_true, Bool.not_false, Nat.zero_add, Nat.add_zero, binL_rem4, binL_rem256, binL_quo256, s0, hG1, l0, l1, l2, ls, lz, Option.map_some, h1]) <;> rfl) ?_ | with_reducible refine gdv_i rfl (by (simp only [zz1, zz2, zz3, zz4, zz5, zz6, zz7, zz8, zz9, zz10, zz11, zz12, zz13, zz14, fa, blen, Nat.reduceEqDiff, reduceIte, decide_true, decide_false, Bool.not_true, Bool.not_false, Nat.zero_add, Nat.add_zero, binL_rem4, binL_rem256, binL_quo256, s0, hG1, l0, l1, l2, ls, lz, Option.map_some, h1]) <;> rfl) ?_ | with_reducible refine gdo_i rfl (by (simp only [zz1, zz2, zz3, zz4, zz5, zz6, zz7, zz8, zz9, zz10, zz11, zz12, zz13, zz14, fa, blen, Nat.reduceEqDiff, reduceIte, decide_true, decide_false, Bool.not_true, Bool.not_false, Nat.zero_add, Nat.add_zero, binL_rem4, binL_rem256, binL_quo256, s0, hG1, l0, l1, l2, ls, lz, Option.map_some, h1]) <;> rfl) ?_ | with_reducible refine gdk_i rfl ?_ | with_reducible refine gds_i rfl ?_ | with_reducible refine gds_u ?_ | rw [gd_true] | rw [gd_false']
    repeat first | rw [then_normal] | rw [then_ret] | rw [then_exit] | rw [exit_normal] | rw [exit_ret] | rw [round_normal] | rw [round_exit] | rw [round_ret] | (rw [exit_exit]; simp only [Nat.reduceEqDiff, reduceIte])
    rw [n42_5_eq]
    refine ifB_t (by (simp only [zz1, zz2, zz3, zz4, zz5, zz6, zz7, zz8, zz9, zz10, zz11, zz12, zz13, zz14, fa, blen, Nat.reduceEqDiff, reduceIte, decide_true, decide_false, Bool.not_true, Bool.not_false, Nat.zero_add, Nat.add_zero, binL_rem4, binL_rem256, binL_quo256, s0, hG1, l0, l1, l2, ls, lz, Option.map_some, h1]) <;> rfl) ?_
    rw [n42_6_eq, c2_seq]
    rw [n42_7_eq]
    skip
    repeat first | rw [then_normal] | rw [then_ret] | rw [then_exit] | rw [exit_normal] | rw [exit_ret] | rw [round_normal] | rw [round_exit] | rw [round_ret] | (rw [exit_exit]; simp only [Nat.reduceEqDiff, reduceIte])
    rw [n42_8_eq, c2_ret]
    repeat first | rw [then_normal] | rw [then_ret] | rw [then_exit] | rw [exit_normal] | rw [exit_ret] | rw [round_normal] | rw [round_exit] | rw [round_ret] | (rw [exit_exit]; simp only [Nat.reduceEqDiff, reduceIte])
    exact hend _ _ 230 _ _ rfl (by simp only [put_at, Nat.reduceEqDiff, reduceIte]) (by rw [hr])
  by_cases h2 : (16 : Int) < zs.length
  · have hr : checkN en segs zs = 230 := if_pos (.inr (.inl h2))
    rw [n42_0_eq, c2_seq]
    rw [n42_1_eq]
    repeat first | with_reducible refine oK_i (by (simp only [zz1, zz2, zz3, zz4, zz5, zz6, zz7, zz8, zz9, zz10, zz11, zz12, zz13, zz14, fa, blen, Nat.reduceEqDiff, reduceIte, decide_true, decide_false, Bool.not_true, Bool.not_false, Nat.zero_add, Nat.add_zero, binL_rem4, binL_rem256, binL_quo256, s0, hG1, l0, l1, l2, ls, lz, Option.map_some, h1, h2]) <;> rfl) ?_
    repeat first | rw [then_normal] | rw [then_ret] | rw [then_exit] | rw [exit_normal] | rw [exit_ret] | rw [round_normal] | rw [round_exit] | rw [round_ret] | (rw [exit_exit]; simp only [Nat.reduceEqDiff, reduceIte])
    rw [n42_2_eq, c2_seq]
    rw [n42_3_eq, c2_seq]
    rw [n42_4_eq]
    repeat first | with_reducible refine vK_i (by (simp only [zz1, zz2, zz3, zz4, zz5, zz6, zz7, zz8, zz9, zz10, zz11, zz12, zz13, zz14, fa, blen, Nat.reduceEqDiff, reduceIte, decide_true, decide_false, Bool.not_true, Bool.not_false, Nat.zero_add, Nat.add_zero, binL_rem4, binL_rem256, binL_quo256, s0, hG1, l0, l1, l2, ls, lz, Option.map_some, h1, h2]) <;> rfl) ?_ | with_reducible refine oK_i (by (simp only [zz1, zz2, zz3, zz4, zz5, zz6, zz7, zz8, zz9, zz10, zz11, zz12, zz13, zz14, fa, blen, Nat.reduceEqDiff, reduceIte, decide_true, decide_false, Bool.not_true, Bool.not_false, Nat.zero_add, Nat.add_zero, binL_rem4, binL_rem256, binL_quo256, s0, hG1, l0, l1, l2, ls, lz, Option.map_some, h1, h2]) <;> rfl) ?_ | with_reducible refine gdv_i rfl (by (simp only [zz1, zz2, zz3, zz4, zz5, zz6, zz7, zz8, zz9, zz10, zz11, zz12, zz13, zz14, fa, blen, Nat.reduceEqDiff, reduceIte, decide_true, decide_false, Bool.not_true, Bool.not_false, Nat.zero_add, Nat.add_zero, binL_rem4, binL_rem256, binL_quo256, s0, hG1, l0, l1, l2, ls, lz, Option.map_some, h1, h2]) <;> rfl) ?_ | with_reducible refine gdo_i rfl (by (simp only [zz1, zz2, zz3, zz4, zz5, zz6, zz7, zz8, zz9, zz10, zz11, zz12, zz13, zz14, fa, blen, Nat.reduceEqDiff, reduceIte, decide_true, decide_false, Bool.not_true, Bool.not_false, Nat.zero_add, Nat.add_zero, binL_rem4, binL_rem256, binL_quo256, s0, hG1, l0, l1, l2, ls, lz, Option.map_some, h1, h2]) <;> rfl) ?_ | with_reducible refine gdk_i rfl ?_ | with_reducible refine gds_i rfl ?_ | with_reducible refine gds_u ?_ | rw [gd_true] | rw [gd_false']
    repeat first | rw [then_normal] | rw [then_ret] | rw [then_exit] | rw [exit_normal] | rw [exit_ret] | rw [round_normal] | rw [round_exit] | rw [round_ret] | (rw [exit_exit]; simp only [Nat.reduceEqDiff, reduceIte])
    rw [n42_5_eq]
    refine ifB_t (by (simp only [zz1, zz2, zz3, zz4, zz5, zz6, zz7, zz8, zz9, zz10, zz11, zz12, zz13, zz14, fa, blen, Nat.reduceEqDiff, reduceIte, decide_true, decide_false, Bool.not_true, Bool.not_false, Nat.zero_add, Nat.add_zero, binL_rem4, binL_rem256, binL_quo256, s0, hG1, l0, l1, l2, ls, lz, Option.map_some, h1, h2]) <;> rfl) ?_
    rw [n42_6_eq, c2_seq]
    rw [n42_7_eq]
    skip
    repeat first | rw [then_normal] | rw [then_ret] | rw [then_exit] | rw [exit_normal] | rw [exit_ret] | rw [round_normal] | rw [round_exit] | rw [round_ret] | (rw [exit_exit]; simp only [Nat.reduceEqDiff, reduceIte])
    rw [n42_8_eq, c2_ret]
    repeat first | rw [then_normal] | rw [then_ret] | rw [then_exit] | rw [exit_normal] | rw [exit_ret] | rw [round_normal] | rw [round_exit] | rw [round_ret] | (rw [exit_exit]; simp only [Nat.reduceEqDiff, reduceIte])
    exact hend _ _ 230 _ _ rfl (by simp only [put_at, Nat.reduceEqDiff, reduceIte]) (by rw [hr])
  by_cases h3 : en < 0
  · have hr : checkN en segs zs = 230 := if_pos (.inr (.inr (.inl h3)))
    rw [n42_0_eq, c2_seq]
    rw [n42_1_eq]
    repeat first | with_reducible refine oK_i (by (simp only [zz1, zz2, zz3, zz4, zz5, zz6, zz7, zz8, zz9, zz10, zz11, zz12, zz13, zz14, fa, blen, Nat.reduceEqDiff, reduceIte, decide_true, decide_false, Bool.not_true, Bool.not_false, Nat.zero_add, Nat.add_zero, binL_rem4, binL_rem256, binL_quo256, s0, hG1, l0, l1, l2, ls, lz, Option.map_some, h1, h2, h3]) <;> rfl) ?_
    repeat first | rw [then_normal] | rw [then_ret] | rw [then_exit] | rw [exit_normal] | rw [exit_ret] | rw [round_normal] | rw [round_exit] | rw [round_ret] | (rw [exit_exit]; simp only [Nat.reduceEqDiff, reduceIte])
    rw [n42_2_eq, c2_seq]
    rw [n42_3_eq, c2_seq]
    rw [n42_4_eq]
    repeat first | with_reducible refine vK_i (by (simp only [zz1, zz2, zz3, zz4, zz5, zz6, zz7, zz8, zz9, zz10, zz11, zz12, zz13, zz14, fa, blen, Nat.reduceEqDiff, reduceIte, decide_true, decide_false, Bool.not_true, Bool.not_false, Nat.zero_add, Nat.add_zero, binL_rem4, binL_rem256, binL_quo256, s0, hG1, l0, l1, l2, ls, lz, Option.map_some, h1, h2, h3]) <;> rfl) ?_ | with_reducible refine oK_i (by (simp only [zz1, zz2, zz3, zz4, zz5, zz6, zz7, zz8, zz9, zz10, zz11, zz12, zz13, zz14, fa, blen, Nat.reduceEqDiff, reduceIte, decide_true, decide_false, Bool.not_true, Bool.not_false, Nat.zero_add, Nat.add_zero, binL_rem4, binL_rem256, binL_quo256, s0, hG1, l0, l1, l2, ls, lz, Option.map_some, h1, h2, h3]) <;> rfl) ?_ | with_reducible refine gdv_i rfl (by (simp only [zz1, zz2, zz3, zz4, zz5, zz6, zz7, zz8, zz9, zz10, zz11, zz12, zz13, zz14, fa, blen, Nat.reduceEqDiff, reduceIte, decide_true, decide_false, Bool.not_true, Bool.not_false, Nat.zero_add, Nat.add_zero, binL_rem4, binL_rem256, binL_quo256, s0, hG1, l0, l1, l2, ls, lz, Option.map_some, h1, h2, h3]) <;> rfl) ?_ | with_reducible refine gdo_i rfl (by (simp only [zz1, zz2, zz3, zz4, zz5, zz6, zz7, zz8, zz9, zz10, zz11, zz12, zz13, zz14, fa, blen, Nat.reduceEqDiff, reduceIte, decide_true, decide_false, Bool.not_true, Bool.not_false, Nat.zero_add, Nat.add_zero, binL_rem4, binL_rem256, binL_quo256, s0, hG1, l0, l1, l2, ls, lz, Option.map_some, h1, h2, h3]) <;> rfl) ?_ | with_reducible refine gdk_i rfl ?_ | with_reducible refine gds_i rfl ?_ | with_reducible refine gds_u ?_ | rw [gd_true] | rw [gd_false']
    repeat first | rw [then_normal] | rw [then_ret] | rw [then_exit] | rw [exit_normal] | rw [exit_ret] | rw [round_normal] | rw [round_exit] | rw [round_ret] | (rw [exit_exit]; simp only [Nat.reduceEqDiff, reduceIte])
    rw [n42_5_eq]
    refine ifB_t (by (simp only [zz1, zz2, zz3, zz4, zz5, zz6, zz7, zz8, zz9, zz10, zz11, zz12, zz13, zz14, fa, blen, Nat.reduceEqDiff, reduceIte, decide_true, decide_false, Bool.not_true, Bool.not_false, Nat.zero_add, Nat.add_zero, binL_rem4, binL_rem256, binL_quo256, s0, hG1, l0, l1, l2, ls, lz, Option.map_some, h1, h2, h3]) <;> rfl) ?_
    rw [n42_6_eq, c2_seq]
    rw [n42_7_eq]
    skip
    repeat first | rw [then_normal] | rw [then_ret] | rw [then_exit] | rw [exit_normal] | rw [exit_ret] | rw [round_normal] | rw [round_exit] | rw [round_ret] | (rw [exit_exit]; simp only [Nat.reduceEqDiff, reduceIte])
    rw [n42_8_eq, c2_ret]
    repeat first | rw [then_normal] | rw [then_ret] | rw [then_exit] | rw [exit_normal] | rw [exit_ret] | rw [round_normal] | rw [round_exit] | rw [round_ret] | (rw [exit_exit]; simp only [Nat.reduceEqDiff, reduceIte])
    exact hend _ _ 230 _ _ rfl (by simp only [put_at, Nat.reduceEqDiff, reduceIte]) (by rw [hr])
  by_cases h4 : 65535 < en
  · have hr : checkN en segs zs = 230 := if_pos (.inr (.inr (.inr (.inl h4))))
    rw [n42_0_eq, c2_seq]
    rw [n42_1_eq]
    repeat first | with_reducible refine oK_i (by (simp only [zz1, zz2, zz3, zz4, zz5, zz6, zz7, zz8, zz9, zz10, zz11, zz12, zz13, zz14, fa, blen, Nat.reduceEqDiff, reduceIte, decide_true, decide_false, Bool.not_true, Bool.not_false, Nat.zero_add, Nat.add_zero, binL_rem4, binL_rem256, binL_quo256, s0, hG1, l0, l1, l2, ls, lz, Option.map_some, h1, h2, h3, h4]) <;> rfl) ?_
    repeat first | rw [then_normal] | rw [then_ret] | rw [then_exit] | rw [exit_normal] | rw [exit_ret] | rw [round_normal] | rw [round_exit] | rw [round_ret] | (rw [exit_exit]; simp only [Nat.reduceEqDiff, reduceIte])
    rw [n42_2_eq, c2_seq]
    rw [n42_3_eq, c2_seq]
    rw [n42_4_eq]
    repeat first | with_reducible refine vK_i (by (simp only [zz1, zz2, zz3, zz4, zz5, zz6, zz7, zz8, zz9, zz10, zz11, zz12, zz13, zz14, fa, blen, Nat.reduceEqDiff, reduceIte, decide_true, decide_false, Bool.not_true, Bool.not_false, Nat.zero_add, Nat.add_zero, binL_rem4, binL_rem256, binL_quo256, s0, hG1, l0, l1, l2, ls, lz, Option.map_some, h1, h2, h3, h4]) <;> rfl) ?_ | with_reducible refine oK_i (by (simp only [zz1, zz2, zz3, zz4, zz5, zz6, zz7, zz8, zz9, zz10, zz11, zz12, zz13, zz14, fa, blen, Nat.reduceEqDiff, reduceIte, decide_true, decide_false, Bool.not_true, Bool.not_false, Nat.zero_add, Nat.add_zero, binL_rem4, binL_rem256, binL_quo256, s0, hG1, l0, l1, l2, ls, lz, Option.map_some, h1, h2, h3, h4]) <;> rfl) ?_ | with_reducible refine gdv_i rfl (by (simp only [zz1, zz2, zz3, zz4, zz5, zz6, zz7, zz8, zz9, zz10, zz11, zz12, zz13, zz14, fa, blen, Nat.reduceEqDiff, reduceIte, decide_true, decide_false, Bool.not_true, Bool.not_false, Nat.zero_add, Nat.add_zero, binL_rem4, binL_rem256, binL_quo256, s0, hG1, l0, l1, l2, ls, lz, Option.map_some, h1, h2, h3, h4]) <;> rfl) ?_ | with_reducible refine gdo_i rfl (by (simp only [zz1, zz2, zz3, zz4, zz5, zz6, zz7, zz8, zz9, zz10, zz11, zz12, zz13, zz14, fa, blen, Nat.reduceEqDiff, reduceIte, decide_true, decide_false, Bool.not_true, Bool.not_false, Nat.zero_add, Nat.add_zero, binL_rem4, binL_rem256, binL_quo256, s0, hG1, l0, l1, l2, ls, lz, Option.map_some, h1, h2, h3, h4]) <;> rfl) ?_ | with_reducible refine gdk_i rfl ?_ | with_reducible refine gds_i rfl ?_ | with_reducible refine gds_u ?_ | rw [gd_true] | rw [gd_false']
    repeat first | rw [then_normal] | rw [then_ret] | rw [then_exit] | rw [exit_normal] | rw [exit_ret] | rw [round_normal] | rw [round_exit] | rw [round_ret] | (rw [exit_exit]; simp only [Nat.reduceEqDiff, reduceIte])
    rw [n42_5_eq]
    refine ifB_t (by (simp only [zz1, zz2, zz3, zz4, zz5, zz6, zz7, zz8, zz9, zz10, zz11, zz12, zz13, zz14, fa, blen, Nat.reduceEqDiff, reduceIte, decide_true, decide_false, Bool.not_true, Bool.not_false, Nat.zero_add, Nat.add_zero, binL_rem4, binL_rem256, binL_quo256, s0, hG1, l0, l1, l2, ls, lz, Option.map_some, h1, h2, h3, h4]) <;> rfl) ?_
    rw [n42_6_eq, c2_seq]
    rw [n42_7_eq]
    skip
    repeat first | rw [then_normal] | rw [then_ret] | rw [then_exit] | rw [exit_normal] | rw [exit_ret] | rw [round_normal] | rw [round_exit] | rw [round_ret] | (rw [exit_exit]; simp only [Nat.reduceEqDiff, reduceIte])
    rw [n42_8_eq, c2_ret]
    repeat first | rw [then_normal] | rw [then_ret] | rw [then_exit] | rw [exit_normal] | rw [exit_ret] | rw [round_normal] | rw [round_exit] | rw [round_ret] | (rw [exit_exit]; simp only [Nat.reduceEqDiff, reduceIte])
    exact hend _ _ 230 _ _ rfl (by simp only [put_at, Nat.reduceEqDiff, reduceIte]) (by rw [hr])
  cases h5 : (en.tmod 4 == 0) with
  | false =>
    have hr : checkN en segs zs = 230 := if_pos (.inr (.inr (.inr (.inr (by simpa using h5)))))
    rw [n42_0_eq, c2_seq]
    rw [n42_1_eq]
    repeat first | with_reducible refine oK_i (by (simp only [zz1, zz2, zz3, zz4, zz5, zz6, zz7, zz8, zz9, zz10, zz11, zz12, zz13, zz14, fa, blen, Nat.reduceEqDiff, reduceIte, decide_true, decide_false, Bool.not_true, Bool.not_false, Nat.zero_add, Nat.add_zero, binL_rem4, binL_rem256, binL_quo256, s0, hG1, l0, l1, l2, ls, lz, Option.map_some, h1, h2, h3, h4, h5]) <;> rfl) ?_
    repeat first | rw [then_normal] | rw [then_ret] | rw [then_exit] | rw [exit_normal] | rw [exit_ret] | rw [round_normal] | rw [round_exit] | rw [round_ret] | (rw [exit_exit]; simp only [Nat.reduceEqDiff, reduceIte])
    rw [n42_2_eq, c2_seq]
    rw [n42_3_eq, c2_seq]
    rw [n42_4_eq]
    repeat first | with_reducible refine vK_i (by (simp only [zz1, zz2, zz3, zz4, zz5, zz6, zz7, zz8, zz9, zz10, zz11, zz12, zz13, zz14, fa, blen, Nat.reduceEqDiff, reduceIte, decide_true, decide_false, Bool.not_true, Bool.not_false, Nat.zero_add, Nat.add_zero, binL_rem4, binL_rem256, binL_quo256, s0, hG1, l0, l1, l2, ls, lz, Option.map_some, h1, h2, h3, h4, h5]) <;> rfl) ?_ | with_reducible refine oK_i (by (simp only [zz1, zz2, zz3, zz4, zz5, zz6, zz7, zz8, zz9, zz10, zz11, zz12, zz13, zz14, fa, blen, Nat.reduceEqDiff, reduceIte, decide_true, decide_false, Bool.not_true, Bool.not_false, Nat.zero_add, Nat.add_zero, binL_rem4, binL_rem256, binL_quo256, s0, hG1, l0, l1, l2, ls, lz, Option.map_some, h1, h2, h3, h4, h5]) <;> rfl) ?_ | with_reducible refine gdv_i rfl (by (simp only [zz1, zz2, zz3, zz4, zz5, zz6, zz7, zz8, zz9, zz10, zz11, zz12, zz13, zz14, fa, blen, Nat.reduceEqDiff, reduceIte, decide_true, decide_false, Bool.not_true, Bool.not_false, Nat.zero_add, Nat.add_zero, binL_rem4, binL_rem256, binL_quo256, s0, hG1, l0, l1, l2, ls, lz, Option.map_some, h1, h2, h3, h4, h5]) <;> rfl) ?_ | with_reducible refine gdo_i rfl (by (simp only [zz1, zz2, zz3, zz4, zz5, zz6, zz7, zz8, zz9, zz10, zz11, zz12, zz13, zz14, fa, blen, Nat.reduceEqDiff, reduceIte, decide_true, decide_false, Bool.not_true, Bool.not_false, Nat.zero_add, Nat.add_zero, binL_rem4, binL_rem256, binL_quo256, s0, hG1, l0, l1, l2, ls, lz, Option.map_some, h1, h2, h3, h4, h5]) <;> rfl) ?_ | with_reducible refine gdk_i rfl ?_ | with_reducible refine gds_i rfl ?_ | with_reducible refine gds_u ?_ | rw [gd_true] | rw [gd_false']
    repeat first | rw [then_normal] | rw [then_ret] | rw [then_exit] | rw [exit_normal] | rw [exit_ret] | rw [round_normal] | rw [round_exit] | rw [round_ret] | (rw [exit_exit]; simp only [Nat.reduceEqDiff, reduceIte])
    rw [n42_5_eq]
    refine ifB_t (by (simp only [zz1, zz2, zz3, zz4, zz5, zz6, zz7, zz8, zz9, zz10, zz11, zz12, zz13, zz14, fa, blen, Nat.reduceEqDiff, reduceIte, decide_true, decide_false, Bool.not_true, Bool.not_false, Nat.zero_add, Nat.add_zero, binL_rem4, binL_rem256, binL_quo256, s0, hG1, l0, l1, l2, ls, lz, Option.map_some, h1, h2, h3, h4, h5]) <;> rfl) ?_
    rw [n42_6_eq, c2_seq]
    rw [n42_7_eq]
    skip
    repeat first | rw [then_normal] | rw [then_ret] | rw [then_exit] | rw [exit_normal] | rw [exit_ret] | rw [round_normal] | rw [round_exit] | rw [round_ret] | (rw [exit_exit]; simp only [Nat.reduceEqDiff, reduceIte])
    rw [n42_8_eq, c2_ret]
    repeat first | rw [then_normal] | rw [then_ret] | rw [then_exit] | rw [exit_normal] | rw [exit_ret] | rw [round_normal] | rw [round_exit] | rw [round_ret] | (rw [exit_exit]; simp only [Nat.reduceEqDiff, reduceIte])
    exact hend _ _ 230 _ _ rfl (by simp only [put_at, Nat.reduceEqDiff, reduceIte]) (by rw [hr])
  | true =>
  have hr : checkN en segs zs = match chkSegs segs (List.replicate 128 false) with
      | none => 230
      | some bs => match chkZeros zs bs with
        | none => 230
        | some _ => if 16384 < headN segs.length zs.length + sumLen segs then 230 else 0 := by
    have h5' : en.tmod 4 = 0 := by simpa using h5
    exact if_neg (by intro hx; rcases hx with hx | hx | hx | hx | hx; exact h1 hx; exact h2 hx; exact h3 hx; exact h4 hx; exact hx h5')
  have hls : (segs.length : Int) ≤ 16 := by omega
  have hlz : (zs.length : Int) ≤ 16 := by omega
  obtain ⟨G2, hG2, HP⟩ : ∃ G2, makeSliceL Try.prog 120 (.int .i64 128) (.int .i64 128) G1 = some (.slice (g.next + 1) 0 128 (.ex 128), G2) ∧ Hp g G2 [i en, SV, ZV] (List.replicate 128 false) := by
    refine ⟨G1.alloc (.cells ((List.replicate 128 false).map .bool) .ex), ?_, ?_, ?_, fun j hj => ?_, ?_⟩
    · rw [← nx1]; exact mk_seen G1
    · rw [LHeap.get_alloc, if_neg (by omega)]; exact i1
    · rw [LHeap.get_alloc, if_pos nx1.symm]
    · rw [LHeap.get_alloc, if_neg (by omega)]; exact low1 j hj
    · rw [LHeap.next_alloc]; omega
  obtain ⟨m0, m1, m2⟩ := HP.ld
  have a1 : IntKind.i64.wrap (4 * (segs.length : Int)) = 4 * segs.length := IntWalk.i64_in _ ⟨by omega, by omega⟩
  have a2 : IntKind.i64.wrap (10 + 4 * (segs.length : Int)) = 10 + 4 * segs.length := IntWalk.i64_in _ ⟨by omega, by omega⟩
  have a4 : IntKind.i64.wrap (4 * (zs.length : Int)) = 4 * zs.length := IntWalk.i64_in _ ⟨by omega, by omega⟩
  have a3 : IntKind.i64.wrap (10 + 4 * (segs.length : Int) + 4 * zs.length) = headN segs.length zs.length := by rw [IntWalk.i64_in _ ⟨by omega, by omega⟩]; unfold headN; omega
  rw [n42_0_eq, c2_seq]
  rw [n42_1_eq]
  repeat first | with_reducible refine oK_i (by (simp only [zz1, zz2, zz3, zz4, zz5, zz6, zz7, zz8, zz9, zz10, zz11, zz12, zz13, zz14, fa, blen, Nat.reduceEqDiff, reduceIte, decide_true, decide_false, Bool.not_true, Bool.not_false, Nat.zero_add, Nat.add_zero, binL_rem4, binL_rem256, binL_quo256, s0, hG1, l0, l1, l2, ls, lz, Option.map_some, h1, h2, h3, h4, h5, hG2, m0, m1, m2, a1, a2, a3, a4]) <;> rfl) ?_
  repeat first | rw [then_normal] | rw [then_ret] | rw [then_exit] | rw [exit_normal] | rw [exit_ret] | rw [round_normal] | rw [round_exit] | rw [round_ret] | (rw [exit_exit]; simp only [Nat.reduceEqDiff, reduceIte])
  rw [n42_2_eq, c2_seq]
  rw [n42_3_eq, c2_seq]
  rw [n42_4_eq]
  repeat first | with_reducible refine vK_i (by (simp only [zz1, zz2, zz3, zz4, zz5, zz6, zz7, zz8, zz9, zz10, zz11, zz12, zz13, zz14, fa, blen, Nat.reduceEqDiff, reduceIte, decide_true, decide_false, Bool.not_true, Bool.not_false, Nat.zero_add, Nat.add_zero, binL_rem4, binL_rem256, binL_quo256, s0, hG1, l0, l1, l2, ls, lz, Option.map_some, h1, h2, h3, h4, h5, hG2, m0, m1, m2, a1, a2, a3, a4]) <;> rfl) ?_ | with_reducible refine oK_i (by (simp only [zz1, zz2, zz3, zz4, zz5, zz6, zz7, zz8, zz9, zz10, zz11, zz12, zz13, zz14, fa, blen, Nat.reduceEqDiff, reduceIte, decide_true, decide_false, Bool.not_true, Bool.not_false, Nat.zero_add, Nat.add_zero, binL_rem4, binL_rem256, binL_quo256, s0, hG1, l0, l1, l2, ls, lz, Option.map_some, h1, h2, h3, h4, h5, hG2, m0, m1, m2, a1, a2, a3, a4]) <;> rfl) ?_ | with_reducible refine gdv_i rfl (by (simp only [zz1, zz2, zz3, zz4, zz5, zz6, zz7, zz8, zz9, zz10, zz11, zz12, zz13, zz14, fa, blen, Nat.reduceEqDiff, reduceIte, decide_true, decide_false, Bool.not_true, Bool.not_false, Nat.zero_add, Nat.add_zero, binL_rem4, binL_rem256, binL_quo256, s0, hG1, l0, l1, l2, ls, lz, Option.map_some, h1, h2, h3, h4, h5, hG2, m0, m1, m2, a1, a2, a3, a4]) <;> rfl) ?_ | with_reducible refine gdo_i rfl (by (simp only [zz1, zz2, zz3, zz4, zz5, zz6, zz7, zz8, zz9, zz10, zz11, zz12, zz13, zz14, fa, blen, Nat.reduceEqDiff, reduceIte, decide_true, decide_false, Bool.not_true, Bool.not_false, Nat.zero_add, Nat.add_zero, binL_rem4, binL_rem256, binL_quo256, s0, hG1, l0, l1, l2, ls, lz, Option.map_some, h1, h2, h3, h4, h5, hG2, m0, m1, m2, a1, a2, a3, a4]) <;> rfl) ?_ | with_reducible refine gdk_i rfl ?_ | with_reducible refine gds_i rfl ?_ | with_reducible refine gds_u ?_ | rw [gd_true] | rw [gd_false']
  repeat first | rw [then_normal] | rw [then_ret] | rw [then_exit] | rw [exit_normal] | rw [exit_ret] | rw [round_normal] | rw [round_exit] | rw [round_ret] | (rw [exit_exit]; simp only [Nat.reduceEqDiff, reduceIte])
  rw [n42_5_eq]
  refine ifB_f (by (simp only [zz1, zz2, zz3, zz4, zz5, zz6, zz7, zz8, zz9, zz10, zz11, zz12, zz13, zz14, fa, blen, Nat.reduceEqDiff, reduceIte, decide_true, decide_false, Bool.not_true, Bool.not_false, Nat.zero_add, Nat.add_zero, binL_rem4, binL_rem256, binL_quo256, s0, hG1, l0, l1, l2, ls, lz, Option.map_some, h1, h2, h3, h4, h5, hG2, m0, m1, m2, a1, a2, a3, a4]) <;> rfl) ?_
  rw [n42_9_eq, c2_skip]
  repeat first | rw [then_normal] | rw [then_ret] | rw [then_exit] | rw [exit_normal] | rw [exit_ret] | rw [round_normal] | rw [round_exit] | rw [round_ret] | (rw [exit_exit]; simp only [Nat.reduceEqDiff, reduceIte])
  rw [n42_10_eq, c2_seq]
  rw [n42_11_eq]
  repeat first | with_reducible refine oK_i (by (simp only [zz1, zz2, zz3, zz4, zz5, zz6, zz7, zz8, zz9, zz10, zz11, zz12, zz13, zz14, fa, blen, Nat.reduceEqDiff, reduceIte, decide_true, decide_false, Bool.not_true, Bool.not_false, Nat.zero_add, Nat.add_zero, binL_rem4, binL_rem256, binL_quo256, s0, hG1, l0, l1, l2, ls, lz, Option.map_some, h1, h2, h3, h4, h5, hG2, m0, m1, m2, a1, a2, a3, a4]) <;> rfl) ?_
  repeat first | rw [then_normal] | rw [then_ret] | rw [then_exit] | rw [exit_normal] | rw [exit_ret] | rw [round_normal] | rw [round_exit] | rw [round_ret] | (rw [exit_exit]; simp only [Nat.reduceEqDiff, reduceIte])
  rw [n42_12_eq, c2_seq]
  rw [n42_13_eq]
  repeat first | with_reducible refine vK_i (by (simp only [zz1, zz2, zz3, zz4, zz5, zz6, zz7, zz8, zz9, zz10, zz11, zz12, zz13, zz14, fa, blen, Nat.reduceEqDiff, reduceIte, decide_true, decide_false, Bool.not_true, Bool.not_false, Nat.zero_add, Nat.add_zero, binL_rem4, binL_rem256, binL_quo256, s0, hG1, l0, l1, l2, ls, lz, Option.map_some, h1, h2, h3, h4, h5, hG2, m0, m1, m2, a1, a2, a3, a4]) <;> rfl) ?_ | with_reducible refine oK_i (by (simp only [zz1, zz2, zz3, zz4, zz5, zz6, zz7, zz8, zz9, zz10, zz11, zz12, zz13, zz14, fa, blen, Nat.reduceEqDiff, reduceIte, decide_true, decide_false, Bool.not_true, Bool.not_false, Nat.zero_add, Nat.add_zero, binL_rem4, binL_rem256, binL_quo256, s0, hG1, l0, l1, l2, ls, lz, Option.map_some, h1, h2, h3, h4, h5, hG2, m0, m1, m2, a1, a2, a3, a4]) <;> rfl) ?_
  repeat first | rw [then_normal] | rw [then_ret] | rw [then_exit] | rw [exit_normal] | rw [exit_ret] | rw [round_normal] | rw [round_exit] | rw [round_ret] | (rw [exit_exit]; simp only [Nat.reduceEqDiff, reduceIte])
  rw [n42_14_eq, c2_seq]
  rw [n42_15_eq, c2_seq]
  rw [n42_16_eq]
  skip
  repeat first | rw [then_normal] | rw [then_ret] | rw [then_exit] | rw [exit_normal] | rw [exit_ret] | rw [round_normal] | rw [round_exit] | rw [round_ret] | (rw [exit_exit]; simp only [Nat.reduceEqDiff, reduceIte])
  rw [n42_17_eq, c2_block]
  rw [n42_18_eq, c2_loop]
  refine loop_of (fun s => ∃ (k : Nat) (bs : List Bool), (s.tm 1 = .ptr g.next 0 ∧ s.tm 3 = .slice (g.next + 1) 0 128 (.ex 128) ∧ s.tm 4 = i (headN segs.length zs.length + sumLen (segs.take k)) ∧ s.tm 5 = i (k : Int)) ∧ k ≤ segs.length ∧ bs.length = 128 ∧ Hp g s.g [i en, SV, ZV] bs ∧ chkSegs segs (List.replicate 128 false) = chkSegs (segs.drop k) bs ∧ 0 ≤ sumLen (segs.take k) ∧ sumLen (segs.take k) ≤ 16384 * k) (fun s => segs.length - (match s.tm 5 with | .int _ x => x.toNat | _ => 0)) ?_ ?_
  · refine ⟨0, _, ⟨by simp only [put_at, Nat.reduceEqDiff, reduceIte], by simp only [put_at, Nat.reduceEqDiff, reduceIte], by simp only [put_at, Nat.reduceEqDiff, reduceIte]; simp [sumLen], by simp only [put_at, Nat.reduceEqDiff, reduceIte]; rfl⟩, Nat.zero_le _, by simp, HP, by simp, by simp [sumLen], by simp [sumLen]⟩
  rintro ⟨tm', h⟩ ⟨k, bs, ⟨t1, t3, t4, tk⟩, hk, hbl, H, hc, z0, z1⟩
  simp only at t1 t3 t4 tk H
  obtain ⟨m0, m1, m2⟩ := H.ld
  by_cases hlt : (k : Int) < segs.length
  · have hkl : k < segs.length := by omega
    obtain ⟨s, hsk⟩ : ∃ s, segs[k]? = some s := ⟨_, List.getElem?_eq_getElem hkl⟩
    have hB := hb s (List.mem_of_getElem? hsk)
    have hdrop : segs.drop k = s :: segs.drop (k + 1) := by rw [List.drop_eq_getElem_cons hkl]; rw [List.getElem?_eq_getElem hkl] at hsk; cases hsk; rfl
    obtain ⟨a, ha, hix, hrow⟩ := row_at hs (k := k) (x := i s.1) (y := s.2) (by rw [List.getElem?_map, hsk]; rfl)
    obtain ⟨hrow, _, _⟩ := hrow h (H.low a ha)
    obtain ⟨Ha, Hb, hn, hst, HB, d0, d1, d2⟩ := H.temp (i 0) .nils (i s.1) s.2 rfl rfl hB.cell
    have hlen : ∀ hh, lenL Try.prog 23 s.2 hh = some (i (lenLV s.2)) := len_b hB
    by_cases c1 : s.1 < 0
    · skip
      rw [n42_19_eq, c2_seq]
      rw [n42_20_eq, c2_seq]
      rw [n42_21_eq]
      repeat first | with_reducible refine vK_i (by (simp only [zz1, zz2, zz3, zz4, zz5, zz6, zz7, zz8, zz9, zz10, zz11, zz12, zz13, zz14, fa, blen, Nat.reduceEqDiff, reduceIte, decide_true, decide_false, Bool.not_true, Bool.not_false, Nat.zero_add, Nat.add_zero, binL_rem4, binL_rem256, binL_quo256, Option.map_some, ls, lz, m0, m1, m2, t1, t3, t4, tk, hlt, hix, hrow, hn, hst, d0, d1, hlen, c1]) <;> rfl) ?_ | with_reducible refine oK_i (by (simp only [zz1, zz2, zz3, zz4, zz5, zz6, zz7, zz8, zz9, zz10, zz11, zz12, zz13, zz14, fa, blen, Nat.reduceEqDiff, reduceIte, decide_true, decide_false, Bool.not_true, Bool.not_false, Nat.zero_add, Nat.add_zero, binL_rem4, binL_rem256, binL_quo256, Option.map_some, ls, lz, m0, m1, m2, t1, t3, t4, tk, hlt, hix, hrow, hn, hst, d0, d1, hlen, c1]) <;> rfl) ?_
      repeat first | rw [then_normal] | rw [then_ret] | rw [then_exit] | rw [exit_normal] | rw [exit_ret] | rw [round_normal] | rw [round_exit] | rw [round_ret] | (rw [exit_exit]; simp only [Nat.reduceEqDiff, reduceIte])
      rw [n42_22_eq]
      refine ifB_t (by (simp only [zz1, zz2, zz3, zz4, zz5, zz6, zz7, zz8, zz9, zz10, zz11, zz12, zz13, zz14, fa, blen, Nat.reduceEqDiff, reduceIte, decide_true, decide_false, Bool.not_true, Bool.not_false, Nat.zero_add, Nat.add_zero, binL_rem4, binL_rem256, binL_quo256, Option.map_some, ls, lz, m0, m1, m2, t1, t3, t4, tk, hlt, hix, hrow, hn, hst, d0, d1, hlen, c1]) <;> rfl) ?_
      rw [n42_23_eq, c2_skip]
      repeat first | rw [then_normal] | rw [then_ret] | rw [then_exit] | rw [exit_normal] | rw [exit_ret] | rw [round_normal] | rw [round_exit] | rw [round_ret] | (rw [exit_exit]; simp only [Nat.reduceEqDiff, reduceIte])
      rw [n42_25_eq, c2_seq]
      rw [n42_26_eq, c2_block]
      rw [n42_27_eq, c2_seq]
      rw [n42_28_eq]
      repeat first | with_reducible refine vK_i (by (simp only [zz1, zz2, zz3, zz4, zz5, zz6, zz7, zz8, zz9, zz10, zz11, zz12, zz13, zz14, fa, blen, Nat.reduceEqDiff, reduceIte, decide_true, decide_false, Bool.not_true, Bool.not_false, Nat.zero_add, Nat.add_zero, binL_rem4, binL_rem256, binL_quo256, Option.map_some, ls, lz, m0, m1, m2, t1, t3, t4, tk, hlt, hix, hrow, hn, hst, d0, d1, hlen, c1]) <;> rfl) ?_ | with_reducible refine oK_i (by (simp only [zz1, zz2, zz3, zz4, zz5, zz6, zz7, zz8, zz9, zz10, zz11, zz12, zz13, zz14, fa, blen, Nat.reduceEqDiff, reduceIte, decide_true, decide_false, Bool.not_true, Bool.not_false, Nat.zero_add, Nat.add_zero, binL_rem4, binL_rem256, binL_quo256, Option.map_some, ls, lz, m0, m1, m2, t1, t3, t4, tk, hlt, hix, hrow, hn, hst, d0, d1, hlen, c1]) <;> rfl) ?_ | with_reducible refine gK_i (by (simp only [zz1, zz2, zz3, zz4, zz5, zz6, zz7, zz8, zz9, zz10, zz11, zz12, zz13, zz14, fa, blen, Nat.reduceEqDiff, reduceIte, decide_true, decide_false, Bool.not_true, Bool.not_false, Nat.zero_add, Nat.add_zero, binL_rem4, binL_rem256, binL_quo256, Option.map_some, ls, lz, m0, m1, m2, t1, t3, t4, tk, hlt, hix, hrow, hn, hst, d0, d1, hlen, c1]) <;> rfl) ?_
      repeat first | rw [then_normal] | rw [then_ret] | rw [then_exit] | rw [exit_normal] | rw [exit_ret] | rw [round_normal] | rw [round_exit] | rw [round_ret] | (rw [exit_exit]; simp only [Nat.reduceEqDiff, reduceIte])
      rw [n42_29_eq, c2_seq]
      rw [n42_30_eq, c2_seq]
      rw [n42_31_eq]
      repeat first | with_reducible refine vK_i (by (simp only [zz1, zz2, zz3, zz4, zz5, zz6, zz7, zz8, zz9, zz10, zz11, zz12, zz13, zz14, fa, blen, Nat.reduceEqDiff, reduceIte, decide_true, decide_false, Bool.not_true, Bool.not_false, Nat.zero_add, Nat.add_zero, binL_rem4, binL_rem256, binL_quo256, Option.map_some, ls, lz, m0, m1, m2, t1, t3, t4, tk, hlt, hix, hrow, hn, hst, d0, d1, hlen, c1]) <;> rfl) ?_ | with_reducible refine oK_i (by (simp only [zz1, zz2, zz3, zz4, zz5, zz6, zz7, zz8, zz9, zz10, zz11, zz12, zz13, zz14, fa, blen, Nat.reduceEqDiff, reduceIte, decide_true, decide_false, Bool.not_true, Bool.not_false, Nat.zero_add, Nat.add_zero, binL_rem4, binL_rem256, binL_quo256, Option.map_some, ls, lz, m0, m1, m2, t1, t3, t4, tk, hlt, hix, hrow, hn, hst, d0, d1, hlen, c1]) <;> rfl) ?_ | with_reducible refine gdv_i rfl (by (simp only [zz1, zz2, zz3, zz4, zz5, zz6, zz7, zz8, zz9, zz10, zz11, zz12, zz13, zz14, fa, blen, Nat.reduceEqDiff, reduceIte, decide_true, decide_false, Bool.not_true, Bool.not_false, Nat.zero_add, Nat.add_zero, binL_rem4, binL_rem256, binL_quo256, Option.map_some, ls, lz, m0, m1, m2, t1, t3, t4, tk, hlt, hix, hrow, hn, hst, d0, d1, hlen, c1]) <;> rfl) ?_ | with_reducible refine gdo_i rfl (by (simp only [zz1, zz2, zz3, zz4, zz5, zz6, zz7, zz8, zz9, zz10, zz11, zz12, zz13, zz14, fa, blen, Nat.reduceEqDiff, reduceIte, decide_true, decide_false, Bool.not_true, Bool.not_false, Nat.zero_add, Nat.add_zero, binL_rem4, binL_rem256, binL_quo256, Option.map_some, ls, lz, m0, m1, m2, t1, t3, t4, tk, hlt, hix, hrow, hn, hst, d0, d1, hlen, c1]) <;> rfl) ?_ | with_reducible refine gdk_i rfl ?_ | with_reducible refine gds_i rfl ?_ | with_reducible refine gds_u ?_ | rw [gd_true] | rw [gd_false']
      repeat first | rw [then_normal] | rw [then_ret] | rw [then_exit] | rw [exit_normal] | rw [exit_ret] | rw [round_normal] | rw [round_exit] | rw [round_ret] | (rw [exit_exit]; simp only [Nat.reduceEqDiff, reduceIte])
      rw [n42_32_eq]
      refine ifB_t (by (simp only [zz1, zz2, zz3, zz4, zz5, zz6, zz7, zz8, zz9, zz10, zz11, zz12, zz13, zz14, fa, blen, Nat.reduceEqDiff, reduceIte, decide_true, decide_false, Bool.not_true, Bool.not_false, Nat.zero_add, Nat.add_zero, binL_rem4, binL_rem256, binL_quo256, Option.map_some, ls, lz, m0, m1, m2, t1, t3, t4, tk, hlt, hix, hrow, hn, hst, d0, d1, hlen, c1]) <;> rfl) ?_
      rw [n42_33_eq, c2_seq]
      rw [n42_34_eq]
      skip
      repeat first | rw [then_normal] | rw [then_ret] | rw [then_exit] | rw [exit_normal] | rw [exit_ret] | rw [round_normal] | rw [round_exit] | rw [round_ret] | (rw [exit_exit]; simp only [Nat.reduceEqDiff, reduceIte])
      rw [n42_35_eq, c2_ret]
      repeat first | rw [then_normal] | rw [then_ret] | rw [then_exit] | rw [exit_normal] | rw [exit_ret] | rw [round_normal] | rw [round_exit] | rw [round_ret] | (rw [exit_exit]; simp only [Nat.reduceEqDiff, reduceIte])
      exact hend _ _ 230 _ _ rfl (by simp only [put_at, Nat.reduceEqDiff, reduceIte]) (by rw [hr, hc, hdrop]; simp [chkSegs, c1])
    cases c2 : (s.1.tmod 256 == 0) with
    | false =>
      have c2' : ¬ (s.1.tmod 256 = 0) := by simpa using c2
      rw [n42_19_eq, c2_seq]
      rw [n42_20_eq, c2_seq]
      rw [n42_21_eq]
      repeat first | with_reducible refine vK_i (by (simp only [zz1, zz2, zz3, zz4, zz5, zz6, zz7, zz8, zz9, zz10, zz11, zz12, zz13, zz14, fa, blen, Nat.reduceEqDiff, reduceIte, decide_true, decide_false, Bool.not_true, Bool.not_false, Nat.zero_add, Nat.add_zero, binL_rem4, binL_rem256, binL_quo256, Option.map_some, ls, lz, m0, m1, m2, t1, t3, t4, tk, hlt, hix, hrow, hn, hst, d0, d1, hlen, c1, c2]) <;> rfl) ?_ | with_reducible refine oK_i (by (simp only [zz1, zz2, zz3, zz4, zz5, zz6, zz7, zz8, zz9, zz10, zz11, zz12, zz13, zz14, fa, blen, Nat.reduceEqDiff, reduceIte, decide_true, decide_false, Bool.not_true, Bool.not_false, Nat.zero_add, Nat.add_zero, binL_rem4, binL_rem256, binL_quo256, Option.map_some, ls, lz, m0, m1, m2, t1, t3, t4, tk, hlt, hix, hrow, hn, hst, d0, d1, hlen, c1, c2]) <;> rfl) ?_
      repeat first | rw [then_normal] | rw [then_ret] | rw [then_exit] | rw [exit_normal] | rw [exit_ret] | rw [round_normal] | rw [round_exit] | rw [round_ret] | (rw [exit_exit]; simp only [Nat.reduceEqDiff, reduceIte])
      rw [n42_22_eq]
      refine ifB_t (by (simp only [zz1, zz2, zz3, zz4, zz5, zz6, zz7, zz8, zz9, zz10, zz11, zz12, zz13, zz14, fa, blen, Nat.reduceEqDiff, reduceIte, decide_true, decide_false, Bool.not_true, Bool.not_false, Nat.zero_add, Nat.add_zero, binL_rem4, binL_rem256, binL_quo256, Option.map_some, ls, lz, m0, m1, m2, t1, t3, t4, tk, hlt, hix, hrow, hn, hst, d0, d1, hlen, c1, c2]) <;> rfl) ?_
      rw [n42_23_eq, c2_skip]
      repeat first | rw [then_normal] | rw [then_ret] | rw [then_exit] | rw [exit_normal] | rw [exit_ret] | rw [round_normal] | rw [round_exit] | rw [round_ret] | (rw [exit_exit]; simp only [Nat.reduceEqDiff, reduceIte])
      rw [n42_25_eq, c2_seq]
      rw [n42_26_eq, c2_block]
      rw [n42_27_eq, c2_seq]
      rw [n42_28_eq]
      repeat first | with_reducible refine vK_i (by (simp only [zz1, zz2, zz3, zz4, zz5, zz6, zz7, zz8, zz9, zz10, zz11, zz12, zz13, zz14, fa, blen, Nat.reduceEqDiff, reduceIte, decide_true, decide_false, Bool.not_true, Bool.not_false, Nat.zero_add, Nat.add_zero, binL_rem4, binL_rem256, binL_quo256, Option.map_some, ls, lz, m0, m1, m2, t1, t3, t4, tk, hlt, hix, hrow, hn, hst, d0, d1, hlen, c1, c2]) <;> rfl) ?_ | with_reducible refine oK_i (by (simp only [zz1, zz2, zz3, zz4, zz5, zz6, zz7, zz8, zz9, zz10, zz11, zz12, zz13, zz14, fa, blen, Nat.reduceEqDiff, reduceIte, decide_true, decide_false, Bool.not_true, Bool.not_false, Nat.zero_add, Nat.add_zero, binL_rem4, binL_rem256, binL_quo256, Option.map_some, ls, lz, m0, m1, m2, t1, t3, t4, tk, hlt, hix, hrow, hn, hst, d0, d1, hlen, c1, c2]) <;> rfl) ?_ | with_reducible refine gK_i (by (simp only [zz1, zz2, zz3, zz4, zz5, zz6, zz7, zz8, zz9, zz10, zz11, zz12, zz13, zz14, fa, blen, Nat.reduceEqDiff, reduceIte, decide_true, decide_false, Bool.not_true, Bool.not_false, Nat.zero_add, Nat.add_zero, binL_rem4, binL_rem256, binL_quo256, Option.map_some, ls, lz, m0, m1, m2, t1, t3, t4, tk, hlt, hix, hrow, hn, hst, d0, d1, hlen, c1, c2]) <;> rfl) ?_
      repeat first | rw [then_normal] | rw [then_ret] | rw [then_exit] | rw [exit_normal] | rw [exit_ret] | rw [round_normal] | rw [round_exit] | rw [round_ret] | (rw [exit_exit]; simp only [Nat.reduceEqDiff, reduceIte])
      rw [n42_29_eq, c2_seq]
      rw [n42_30_eq, c2_seq]
      rw [n42_31_eq]
      repeat first | with_reducible refine vK_i (by (simp only [zz1, zz2, zz3, zz4, zz5, zz6, zz7, zz8, zz9, zz10, zz11, zz12, zz13, zz14, fa, blen, Nat.reduceEqDiff, reduceIte, decide_true, decide_false, Bool.not_true, Bool.not_false, Nat.zero_add, Nat.add_zero, binL_rem4, binL_rem256, binL_quo256, Option.map_some, ls, lz, m0, m1, m2, t1, t3, t4, tk, hlt, hix, hrow, hn, hst, d0, d1, hlen, c1, c2]) <;> rfl) ?_ | with_reducible refine oK_i (by (simp only [zz1, zz2, zz3, zz4, zz5, zz6, zz7, zz8, zz9, zz10, zz11, zz12, zz13, zz14, fa, blen, Nat.reduceEqDiff, reduceIte, decide_true, decide_false, Bool.not_true, Bool.not_false, Nat.zero_add, Nat.add_zero, binL_rem4, binL_rem256, binL_quo256, Option.map_some, ls, lz, m0, m1, m2, t1, t3, t4, tk, hlt, hix, hrow, hn, hst, d0, d1, hlen, c1, c2]) <;> rfl) ?_ | with_reducible refine gdv_i rfl (by (simp only [zz1, zz2, zz3, zz4, zz5, zz6, zz7, zz8, zz9, zz10, zz11, zz12, zz13, zz14, fa, blen, Nat.reduceEqDiff, reduceIte, decide_true, decide_false, Bool.not_true, Bool.not_false, Nat.zero_add, Nat.add_zero, binL_rem4, binL_rem256, binL_quo256, Option.map_some, ls, lz, m0, m1, m2, t1, t3, t4, tk, hlt, hix, hrow, hn, hst, d0, d1, hlen, c1, c2]) <;> rfl) ?_ | with_reducible refine gdo_i rfl (by (simp only [zz1, zz2, zz3, zz4, zz5, zz6, zz7, zz8, zz9, zz10, zz11, zz12, zz13, zz14, fa, blen, Nat.reduceEqDiff, reduceIte, decide_true, decide_false, Bool.not_true, Bool.not_false, Nat.zero_add, Nat.add_zero, binL_rem4, binL_rem256, binL_quo256, Option.map_some, ls, lz, m0, m1, m2, t1, t3, t4, tk, hlt, hix, hrow, hn, hst, d0, d1, hlen, c1, c2]) <;> rfl) ?_ | with_reducible refine gdk_i rfl ?_ | with_reducible refine gds_i rfl ?_ | with_reducible refine gds_u ?_ | rw [gd_true] | rw [gd_false']
      repeat first | rw [then_normal] | rw [then_ret] | rw [then_exit] | rw [exit_normal] | rw [exit_ret] | rw [round_normal] | rw [round_exit] | rw [round_ret] | (rw [exit_exit]; simp only [Nat.reduceEqDiff, reduceIte])
      rw [n42_32_eq]
      refine ifB_t (by (simp only [zz1, zz2, zz3, zz4, zz5, zz6, zz7, zz8, zz9, zz10, zz11, zz12, zz13, zz14, fa, blen, Nat.reduceEqDiff, reduceIte, decide_true, decide_false, Bool.not_true, Bool.not_false, Nat.zero_add, Nat.add_zero, binL_rem4, binL_rem256, binL_quo256, Option.map_some, ls, lz, m0, m1, m2, t1, t3, t4, tk, hlt, hix, hrow, hn, hst, d0, d1, hlen, c1, c2]) <;> rfl) ?_
      rw [n42_33_eq, c2_seq]
      rw [n42_34_eq]
      skip
      repeat first | rw [then_normal] | rw [then_ret] | rw [then_exit] | rw [exit_normal] | rw [exit_ret] | rw [round_normal] | rw [round_exit] | rw [round_ret] | (rw [exit_exit]; simp only [Nat.reduceEqDiff, reduceIte])
      rw [n42_35_eq, c2_ret]
      repeat first | rw [then_normal] | rw [then_ret] | rw [then_exit] | rw [exit_normal] | rw [exit_ret] | rw [round_normal] | rw [round_exit] | rw [round_ret] | (rw [exit_exit]; simp only [Nat.reduceEqDiff, reduceIte])
      exact hend _ _ 230 _ _ rfl (by simp only [put_at, Nat.reduceEqDiff, reduceIte]) (by rw [hr, hc, hdrop]; simp [chkSegs, c1, c2'])
    | true =>
    have c2' : s.1.tmod 256 = 0 := by simpa using c2
    by_cases c0 : (lenLV s.2 : Int) < 1
    · have hzero : pagesN (lenLV s.2) < 1 := by unfold pagesN; omega
      have hfalse : (reachB (IntKind.i64.wrap (s.1.tdiv 256)) (pagesN (lenLV s.2)) bs).1 = false := by unfold reachB; rw [if_pos (.inr (.inl hzero))]
      rw [n42_19_eq, c2_seq]
      rw [n42_20_eq, c2_seq]
      rw [n42_21_eq]
      repeat first | with_reducible refine vK_i (by (simp only [zz1, zz2, zz3, zz4, zz5, zz6, zz7, zz8, zz9, zz10, zz11, zz12, zz13, zz14, fa, blen, Nat.reduceEqDiff, reduceIte, decide_true, decide_false, Bool.not_true, Bool.not_false, Nat.zero_add, Nat.add_zero, binL_rem4, binL_rem256, binL_quo256, Option.map_some, ls, lz, m0, m1, m2, t1, t3, t4, tk, hlt, hix, hrow, hn, hst, d0, d1, hlen, c1, c2, c0]) <;> rfl) ?_ | with_reducible refine oK_i (by (simp only [zz1, zz2, zz3, zz4, zz5, zz6, zz7, zz8, zz9, zz10, zz11, zz12, zz13, zz14, fa, blen, Nat.reduceEqDiff, reduceIte, decide_true, decide_false, Bool.not_true, Bool.not_false, Nat.zero_add, Nat.add_zero, binL_rem4, binL_rem256, binL_quo256, Option.map_some, ls, lz, m0, m1, m2, t1, t3, t4, tk, hlt, hix, hrow, hn, hst, d0, d1, hlen, c1, c2, c0]) <;> rfl) ?_
      repeat first | rw [then_normal] | rw [then_ret] | rw [then_exit] | rw [exit_normal] | rw [exit_ret] | rw [round_normal] | rw [round_exit] | rw [round_ret] | (rw [exit_exit]; simp only [Nat.reduceEqDiff, reduceIte])
      rw [n42_22_eq]
      refine ifB_t (by (simp only [zz1, zz2, zz3, zz4, zz5, zz6, zz7, zz8, zz9, zz10, zz11, zz12, zz13, zz14, fa, blen, Nat.reduceEqDiff, reduceIte, decide_true, decide_false, Bool.not_true, Bool.not_false, Nat.zero_add, Nat.add_zero, binL_rem4, binL_rem256, binL_quo256, Option.map_some, ls, lz, m0, m1, m2, t1, t3, t4, tk, hlt, hix, hrow, hn, hst, d0, d1, hlen, c1, c2, c0]) <;> rfl) ?_
      rw [n42_23_eq, c2_skip]
      repeat first | rw [then_normal] | rw [then_ret] | rw [then_exit] | rw [exit_normal] | rw [exit_ret] | rw [round_normal] | rw [round_exit] | rw [round_ret] | (rw [exit_exit]; simp only [Nat.reduceEqDiff, reduceIte])
      rw [n42_25_eq, c2_seq]
      rw [n42_26_eq, c2_block]
      rw [n42_27_eq, c2_seq]
      rw [n42_28_eq]
      repeat first | with_reducible refine vK_i (by (simp only [zz1, zz2, zz3, zz4, zz5, zz6, zz7, zz8, zz9, zz10, zz11, zz12, zz13, zz14, fa, blen, Nat.reduceEqDiff, reduceIte, decide_true, decide_false, Bool.not_true, Bool.not_false, Nat.zero_add, Nat.add_zero, binL_rem4, binL_rem256, binL_quo256, Option.map_some, ls, lz, m0, m1, m2, t1, t3, t4, tk, hlt, hix, hrow, hn, hst, d0, d1, hlen, c1, c2, c0]) <;> rfl) ?_ | with_reducible refine oK_i (by (simp only [zz1, zz2, zz3, zz4, zz5, zz6, zz7, zz8, zz9, zz10, zz11, zz12, zz13, zz14, fa, blen, Nat.reduceEqDiff, reduceIte, decide_true, decide_false, Bool.not_true, Bool.not_false, Nat.zero_add, Nat.add_zero, binL_rem4, binL_rem256, binL_quo256, Option.map_some, ls, lz, m0, m1, m2, t1, t3, t4, tk, hlt, hix, hrow, hn, hst, d0, d1, hlen, c1, c2, c0]) <;> rfl) ?_ | with_reducible refine gK_i (by (simp only [zz1, zz2, zz3, zz4, zz5, zz6, zz7, zz8, zz9, zz10, zz11, zz12, zz13, zz14, fa, blen, Nat.reduceEqDiff, reduceIte, decide_true, decide_false, Bool.not_true, Bool.not_false, Nat.zero_add, Nat.add_zero, binL_rem4, binL_rem256, binL_quo256, Option.map_some, ls, lz, m0, m1, m2, t1, t3, t4, tk, hlt, hix, hrow, hn, hst, d0, d1, hlen, c1, c2, c0]) <;> rfl) ?_
      repeat first | rw [then_normal] | rw [then_ret] | rw [then_exit] | rw [exit_normal] | rw [exit_ret] | rw [round_normal] | rw [round_exit] | rw [round_ret] | (rw [exit_exit]; simp only [Nat.reduceEqDiff, reduceIte])
      rw [n42_29_eq, c2_seq]
      rw [n42_30_eq, c2_seq]
      rw [n42_31_eq]
      repeat first | with_reducible refine vK_i (by (simp only [zz1, zz2, zz3, zz4, zz5, zz6, zz7, zz8, zz9, zz10, zz11, zz12, zz13, zz14, fa, blen, Nat.reduceEqDiff, reduceIte, decide_true, decide_false, Bool.not_true, Bool.not_false, Nat.zero_add, Nat.add_zero, binL_rem4, binL_rem256, binL_quo256, Option.map_some, ls, lz, m0, m1, m2, t1, t3, t4, tk, hlt, hix, hrow, hn, hst, d0, d1, hlen, c1, c2, c0]) <;> rfl) ?_ | with_reducible refine oK_i (by (simp only [zz1, zz2, zz3, zz4, zz5, zz6, zz7, zz8, zz9, zz10, zz11, zz12, zz13, zz14, fa, blen, Nat.reduceEqDiff, reduceIte, decide_true, decide_false, Bool.not_true, Bool.not_false, Nat.zero_add, Nat.add_zero, binL_rem4, binL_rem256, binL_quo256, Option.map_some, ls, lz, m0, m1, m2, t1, t3, t4, tk, hlt, hix, hrow, hn, hst, d0, d1, hlen, c1, c2, c0]) <;> rfl) ?_ | with_reducible refine gdv_i rfl (by (simp only [zz1, zz2, zz3, zz4, zz5, zz6, zz7, zz8, zz9, zz10, zz11, zz12, zz13, zz14, fa, blen, Nat.reduceEqDiff, reduceIte, decide_true, decide_false, Bool.not_true, Bool.not_false, Nat.zero_add, Nat.add_zero, binL_rem4, binL_rem256, binL_quo256, Option.map_some, ls, lz, m0, m1, m2, t1, t3, t4, tk, hlt, hix, hrow, hn, hst, d0, d1, hlen, c1, c2, c0]) <;> rfl) ?_ | with_reducible refine gdo_i rfl (by (simp only [zz1, zz2, zz3, zz4, zz5, zz6, zz7, zz8, zz9, zz10, zz11, zz12, zz13, zz14, fa, blen, Nat.reduceEqDiff, reduceIte, decide_true, decide_false, Bool.not_true, Bool.not_false, Nat.zero_add, Nat.add_zero, binL_rem4, binL_rem256, binL_quo256, Option.map_some, ls, lz, m0, m1, m2, t1, t3, t4, tk, hlt, hix, hrow, hn, hst, d0, d1, hlen, c1, c2, c0]) <;> rfl) ?_ | with_reducible refine gdk_i rfl ?_ | with_reducible refine gds_i rfl ?_ | with_reducible refine gds_u ?_ | rw [gd_true] | rw [gd_false']
      repeat first | rw [then_normal] | rw [then_ret] | rw [then_exit] | rw [exit_normal] | rw [exit_ret] | rw [round_normal] | rw [round_exit] | rw [round_ret] | (rw [exit_exit]; simp only [Nat.reduceEqDiff, reduceIte])
      rw [n42_32_eq]
      refine ifB_t (by (simp only [zz1, zz2, zz3, zz4, zz5, zz6, zz7, zz8, zz9, zz10, zz11, zz12, zz13, zz14, fa, blen, Nat.reduceEqDiff, reduceIte, decide_true, decide_false, Bool.not_true, Bool.not_false, Nat.zero_add, Nat.add_zero, binL_rem4, binL_rem256, binL_quo256, Option.map_some, ls, lz, m0, m1, m2, t1, t3, t4, tk, hlt, hix, hrow, hn, hst, d0, d1, hlen, c1, c2, c0]) <;> rfl) ?_
      rw [n42_33_eq, c2_seq]
      rw [n42_34_eq]
      skip
      repeat first | rw [then_normal] | rw [then_ret] | rw [then_exit] | rw [exit_normal] | rw [exit_ret] | rw [round_normal] | rw [round_exit] | rw [round_ret] | (rw [exit_exit]; simp only [Nat.reduceEqDiff, reduceIte])
      rw [n42_35_eq, c2_ret]
      repeat first | rw [then_normal] | rw [then_ret] | rw [then_exit] | rw [exit_normal] | rw [exit_ret] | rw [round_normal] | rw [round_exit] | rw [round_ret] | (rw [exit_exit]; simp only [Nat.reduceEqDiff, reduceIte])
      exact hend _ _ 230 _ _ rfl (by simp only [put_at, Nat.reduceEqDiff, reduceIte]) (by rw [hr, hc, hdrop]; simp [chkSegs, hfalse])
    by_cases c3 : (16384 : Int) < lenLV s.2
    · skip
      rw [n42_19_eq, c2_seq]
      rw [n42_20_eq, c2_seq]
      rw [n42_21_eq]
      repeat first | with_reducible refine vK_i (by (simp only [zz1, zz2, zz3, zz4, zz5, zz6, zz7, zz8, zz9, zz10, zz11, zz12, zz13, zz14, fa, blen, Nat.reduceEqDiff, reduceIte, decide_true, decide_false, Bool.not_true, Bool.not_false, Nat.zero_add, Nat.add_zero, binL_rem4, binL_rem256, binL_quo256, Option.map_some, ls, lz, m0, m1, m2, t1, t3, t4, tk, hlt, hix, hrow, hn, hst, d0, d1, hlen, c0, c1, c2, c3]) <;> rfl) ?_ | with_reducible refine oK_i (by (simp only [zz1, zz2, zz3, zz4, zz5, zz6, zz7, zz8, zz9, zz10, zz11, zz12, zz13, zz14, fa, blen, Nat.reduceEqDiff, reduceIte, decide_true, decide_false, Bool.not_true, Bool.not_false, Nat.zero_add, Nat.add_zero, binL_rem4, binL_rem256, binL_quo256, Option.map_some, ls, lz, m0, m1, m2, t1, t3, t4, tk, hlt, hix, hrow, hn, hst, d0, d1, hlen, c0, c1, c2, c3]) <;> rfl) ?_
      repeat first | rw [then_normal] | rw [then_ret] | rw [then_exit] | rw [exit_normal] | rw [exit_ret] | rw [round_normal] | rw [round_exit] | rw [round_ret] | (rw [exit_exit]; simp only [Nat.reduceEqDiff, reduceIte])
      rw [n42_22_eq]
      refine ifB_t (by (simp only [zz1, zz2, zz3, zz4, zz5, zz6, zz7, zz8, zz9, zz10, zz11, zz12, zz13, zz14, fa, blen, Nat.reduceEqDiff, reduceIte, decide_true, decide_false, Bool.not_true, Bool.not_false, Nat.zero_add, Nat.add_zero, binL_rem4, binL_rem256, binL_quo256, Option.map_some, ls, lz, m0, m1, m2, t1, t3, t4, tk, hlt, hix, hrow, hn, hst, d0, d1, hlen, c0, c1, c2, c3]) <;> rfl) ?_
      rw [n42_23_eq, c2_skip]
      repeat first | rw [then_normal] | rw [then_ret] | rw [then_exit] | rw [exit_normal] | rw [exit_ret] | rw [round_normal] | rw [round_exit] | rw [round_ret] | (rw [exit_exit]; simp only [Nat.reduceEqDiff, reduceIte])
      rw [n42_25_eq, c2_seq]
      rw [n42_26_eq, c2_block]
      rw [n42_27_eq, c2_seq]
      rw [n42_28_eq]
      repeat first | with_reducible refine vK_i (by (simp only [zz1, zz2, zz3, zz4, zz5, zz6, zz7, zz8, zz9, zz10, zz11, zz12, zz13, zz14, fa, blen, Nat.reduceEqDiff, reduceIte, decide_true, decide_false, Bool.not_true, Bool.not_false, Nat.zero_add, Nat.add_zero, binL_rem4, binL_rem256, binL_quo256, Option.map_some, ls, lz, m0, m1, m2, t1, t3, t4, tk, hlt, hix, hrow, hn, hst, d0, d1, hlen, c0, c1, c2, c3]) <;> rfl) ?_ | with_reducible refine oK_i (by (simp only [zz1, zz2, zz3, zz4, zz5, zz6, zz7, zz8, zz9, zz10, zz11, zz12, zz13, zz14, fa, blen, Nat.reduceEqDiff, reduceIte, decide_true, decide_false, Bool.not_true, Bool.not_false, Nat.zero_add, Nat.add_zero, binL_rem4, binL_rem256, binL_quo256, Option.map_some, ls, lz, m0, m1, m2, t1, t3, t4, tk, hlt, hix, hrow, hn, hst, d0, d1, hlen, c0, c1, c2, c3]) <;> rfl) ?_ | with_reducible refine gK_i (by (simp only [zz1, zz2, zz3, zz4, zz5, zz6, zz7, zz8, zz9, zz10, zz11, zz12, zz13, zz14, fa, blen, Nat.reduceEqDiff, reduceIte, decide_true, decide_false, Bool.not_true, Bool.not_false, Nat.zero_add, Nat.add_zero, binL_rem4, binL_rem256, binL_quo256, Option.map_some, ls, lz, m0, m1, m2, t1, t3, t4, tk, hlt, hix, hrow, hn, hst, d0, d1, hlen, c0, c1, c2, c3]) <;> rfl) ?_
      repeat first | rw [then_normal] | rw [then_ret] | rw [then_exit] | rw [exit_normal] | rw [exit_ret] | rw [round_normal] | rw [round_exit] | rw [round_ret] | (rw [exit_exit]; simp only [Nat.reduceEqDiff, reduceIte])
      rw [n42_29_eq, c2_seq]
      rw [n42_30_eq, c2_seq]
      rw [n42_31_eq]
      repeat first | with_reducible refine vK_i (by (simp only [zz1, zz2, zz3, zz4, zz5, zz6, zz7, zz8, zz9, zz10, zz11, zz12, zz13, zz14, fa, blen, Nat.reduceEqDiff, reduceIte, decide_true, decide_false, Bool.not_true, Bool.not_false, Nat.zero_add, Nat.add_zero, binL_rem4, binL_rem256, binL_quo256, Option.map_some, ls, lz, m0, m1, m2, t1, t3, t4, tk, hlt, hix, hrow, hn, hst, d0, d1, hlen, c0, c1, c2, c3]) <;> rfl) ?_ | with_reducible refine oK_i (by (simp only [zz1, zz2, zz3, zz4, zz5, zz6, zz7, zz8, zz9, zz10, zz11, zz12, zz13, zz14, fa, blen, Nat.reduceEqDiff, reduceIte, decide_true, decide_false, Bool.not_true, Bool.not_false, Nat.zero_add, Nat.add_zero, binL_rem4, binL_rem256, binL_quo256, Option.map_some, ls, lz, m0, m1, m2, t1, t3, t4, tk, hlt, hix, hrow, hn, hst, d0, d1, hlen, c0, c1, c2, c3]) <;> rfl) ?_ | with_reducible refine gdv_i rfl (by (simp only [zz1, zz2, zz3, zz4, zz5, zz6, zz7, zz8, zz9, zz10, zz11, zz12, zz13, zz14, fa, blen, Nat.reduceEqDiff, reduceIte, decide_true, decide_false, Bool.not_true, Bool.not_false, Nat.zero_add, Nat.add_zero, binL_rem4, binL_rem256, binL_quo256, Option.map_some, ls, lz, m0, m1, m2, t1, t3, t4, tk, hlt, hix, hrow, hn, hst, d0, d1, hlen, c0, c1, c2, c3]) <;> rfl) ?_ | with_reducible refine gdo_i rfl (by (simp only [zz1, zz2, zz3, zz4, zz5, zz6, zz7, zz8, zz9, zz10, zz11, zz12, zz13, zz14, fa, blen, Nat.reduceEqDiff, reduceIte, decide_true, decide_false, Bool.not_true, Bool.not_false, Nat.zero_add, Nat.add_zero, binL_rem4, binL_rem256, binL_quo256, Option.map_some, ls, lz, m0, m1, m2, t1, t3, t4, tk, hlt, hix, hrow, hn, hst, d0, d1, hlen, c0, c1, c2, c3]) <;> rfl) ?_ | with_reducible refine gdk_i rfl ?_ | with_reducible refine gds_i rfl ?_ | with_reducible refine gds_u ?_ | rw [gd_true] | rw [gd_false']
      repeat first | rw [then_normal] | rw [then_ret] | rw [then_exit] | rw [exit_normal] | rw [exit_ret] | rw [round_normal] | rw [round_exit] | rw [round_ret] | (rw [exit_exit]; simp only [Nat.reduceEqDiff, reduceIte])
      rw [n42_32_eq]
      refine ifB_t (by (simp only [zz1, zz2, zz3, zz4, zz5, zz6, zz7, zz8, zz9, zz10, zz11, zz12, zz13, zz14, fa, blen, Nat.reduceEqDiff, reduceIte, decide_true, decide_false, Bool.not_true, Bool.not_false, Nat.zero_add, Nat.add_zero, binL_rem4, binL_rem256, binL_quo256, Option.map_some, ls, lz, m0, m1, m2, t1, t3, t4, tk, hlt, hix, hrow, hn, hst, d0, d1, hlen, c0, c1, c2, c3]) <;> rfl) ?_
      rw [n42_33_eq, c2_seq]
      rw [n42_34_eq]
      skip
      repeat first | rw [then_normal] | rw [then_ret] | rw [then_exit] | rw [exit_normal] | rw [exit_ret] | rw [round_normal] | rw [round_exit] | rw [round_ret] | (rw [exit_exit]; simp only [Nat.reduceEqDiff, reduceIte])
      rw [n42_35_eq, c2_ret]
      repeat first | rw [then_normal] | rw [then_ret] | rw [then_exit] | rw [exit_normal] | rw [exit_ret] | rw [round_normal] | rw [round_exit] | rw [round_ret] | (rw [exit_exit]; simp only [Nat.reduceEqDiff, reduceIte])
      exact hend _ _ 230 _ _ rfl (by simp only [put_at, Nat.reduceEqDiff, reduceIte]) (by rw [hr, hc, hdrop]; simp [chkSegs, c1, c2', c3])
    have hle : lenLV s.2 ≤ 2 ^ 48 := by omega
    have hpg := pages_eq hle
    cases c4 : (reachB (IntKind.i64.wrap (s.1.tdiv 256)) (pagesN (lenLV s.2)) bs).1 with
    | false =>
      rw [n42_19_eq, c2_seq]
      rw [n42_20_eq, c2_seq]
      rw [n42_21_eq]
      repeat first | with_reducible refine vK_i (by (simp only [zz1, zz2, zz3, zz4, zz5, zz6, zz7, zz8, zz9, zz10, zz11, zz12, zz13, zz14, fa, blen, Nat.reduceEqDiff, reduceIte, decide_true, decide_false, Bool.not_true, Bool.not_false, Nat.zero_add, Nat.add_zero, binL_rem4, binL_rem256, binL_quo256, Option.map_some, ls, lz, m0, m1, m2, t1, t3, t4, tk, hlt, hix, hrow, hn, hst, d0, d1, hlen, c0, c1, c2, c3, hpg, c4]) <;> rfl) ?_ | with_reducible refine oK_i (by (simp only [zz1, zz2, zz3, zz4, zz5, zz6, zz7, zz8, zz9, zz10, zz11, zz12, zz13, zz14, fa, blen, Nat.reduceEqDiff, reduceIte, decide_true, decide_false, Bool.not_true, Bool.not_false, Nat.zero_add, Nat.add_zero, binL_rem4, binL_rem256, binL_quo256, Option.map_some, ls, lz, m0, m1, m2, t1, t3, t4, tk, hlt, hix, hrow, hn, hst, d0, d1, hlen, c0, c1, c2, c3, hpg, c4]) <;> rfl) ?_
      repeat first | rw [then_normal] | rw [then_ret] | rw [then_exit] | rw [exit_normal] | rw [exit_ret] | rw [round_normal] | rw [round_exit] | rw [round_ret] | (rw [exit_exit]; simp only [Nat.reduceEqDiff, reduceIte])
      rw [n42_22_eq]
      refine ifB_t (by (simp only [zz1, zz2, zz3, zz4, zz5, zz6, zz7, zz8, zz9, zz10, zz11, zz12, zz13, zz14, fa, blen, Nat.reduceEqDiff, reduceIte, decide_true, decide_false, Bool.not_true, Bool.not_false, Nat.zero_add, Nat.add_zero, binL_rem4, binL_rem256, binL_quo256, Option.map_some, ls, lz, m0, m1, m2, t1, t3, t4, tk, hlt, hix, hrow, hn, hst, d0, d1, hlen, c0, c1, c2, c3, hpg, c4]) <;> rfl) ?_
      rw [n42_23_eq, c2_skip]
      repeat first | rw [then_normal] | rw [then_ret] | rw [then_exit] | rw [exit_normal] | rw [exit_ret] | rw [round_normal] | rw [round_exit] | rw [round_ret] | (rw [exit_exit]; simp only [Nat.reduceEqDiff, reduceIte])
      rw [n42_25_eq, c2_seq]
      rw [n42_26_eq, c2_block]
      rw [n42_27_eq, c2_seq]
      rw [n42_28_eq]
      repeat first | with_reducible refine vK_i (by (simp only [zz1, zz2, zz3, zz4, zz5, zz6, zz7, zz8, zz9, zz10, zz11, zz12, zz13, zz14, fa, blen, Nat.reduceEqDiff, reduceIte, decide_true, decide_false, Bool.not_true, Bool.not_false, Nat.zero_add, Nat.add_zero, binL_rem4, binL_rem256, binL_quo256, Option.map_some, ls, lz, m0, m1, m2, t1, t3, t4, tk, hlt, hix, hrow, hn, hst, d0, d1, hlen, c0, c1, c2, c3, hpg, c4]) <;> rfl) ?_ | with_reducible refine oK_i (by (simp only [zz1, zz2, zz3, zz4, zz5, zz6, zz7, zz8, zz9, zz10, zz11, zz12, zz13, zz14, fa, blen, Nat.reduceEqDiff, reduceIte, decide_true, decide_false, Bool.not_true, Bool.not_false, Nat.zero_add, Nat.add_zero, binL_rem4, binL_rem256, binL_quo256, Option.map_some, ls, lz, m0, m1, m2, t1, t3, t4, tk, hlt, hix, hrow, hn, hst, d0, d1, hlen, c0, c1, c2, c3, hpg, c4]) <;> rfl) ?_ | with_reducible refine gK_i (by (simp only [zz1, zz2, zz3, zz4, zz5, zz6, zz7, zz8, zz9, zz10, zz11, zz12, zz13, zz14, fa, blen, Nat.reduceEqDiff, reduceIte, decide_true, decide_false, Bool.not_true, Bool.not_false, Nat.zero_add, Nat.add_zero, binL_rem4, binL_rem256, binL_quo256, Option.map_some, ls, lz, m0, m1, m2, t1, t3, t4, tk, hlt, hix, hrow, hn, hst, d0, d1, hlen, c0, c1, c2, c3, hpg, c4]) <;> rfl) ?_
      repeat first | rw [then_normal] | rw [then_ret] | rw [then_exit] | rw [exit_normal] | rw [exit_ret] | rw [round_normal] | rw [round_exit] | rw [round_ret] | (rw [exit_exit]; simp only [Nat.reduceEqDiff, reduceIte])
      rw [n42_29_eq, c2_seq]
      rw [n42_30_eq, c2_seq]
      rw [n42_31_eq]
      repeat first | with_reducible refine vK_i (by (simp only [zz1, zz2, zz3, zz4, zz5, zz6, zz7, zz8, zz9, zz10, zz11, zz12, zz13, zz14, fa, blen, Nat.reduceEqDiff, reduceIte, decide_true, decide_false, Bool.not_true, Bool.not_false, Nat.zero_add, Nat.add_zero, binL_rem4, binL_rem256, binL_quo256, Option.map_some, ls, lz, m0, m1, m2, t1, t3, t4, tk, hlt, hix, hrow, hn, hst, d0, d1, hlen, c0, c1, c2, c3, hpg, c4]) <;> rfl) ?_ | with_reducible refine oK_i (by (simp only [zz1, zz2, zz3, zz4, zz5, zz6, zz7, zz8, zz9, zz10, zz11, zz12, zz13, zz14, fa, blen, Nat.reduceEqDiff, reduceIte, decide_true, decide_false, Bool.not_true, Bool.not_false, Nat.zero_add, Nat.add_zero, binL_rem4, binL_rem256, binL_quo256, Option.map_some, ls, lz, m0, m1, m2, t1, t3, t4, tk, hlt, hix, hrow, hn, hst, d0, d1, hlen, c0, c1, c2, c3, hpg, c4]) <;> rfl) ?_ | with_reducible refine gdv_i rfl (by (simp only [zz1, zz2, zz3, zz4, zz5, zz6, zz7, zz8, zz9, zz10, zz11, zz12, zz13, zz14, fa, blen, Nat.reduceEqDiff, reduceIte, decide_true, decide_false, Bool.not_true, Bool.not_false, Nat.zero_add, Nat.add_zero, binL_rem4, binL_rem256, binL_quo256, Option.map_some, ls, lz, m0, m1, m2, t1, t3, t4, tk, hlt, hix, hrow, hn, hst, d0, d1, hlen, c0, c1, c2, c3, hpg, c4]) <;> rfl) ?_ | with_reducible refine gdo_i rfl (by (simp only [zz1, zz2, zz3, zz4, zz5, zz6, zz7, zz8, zz9, zz10, zz11, zz12, zz13, zz14, fa, blen, Nat.reduceEqDiff, reduceIte, decide_true, decide_false, Bool.not_true, Bool.not_false, Nat.zero_add, Nat.add_zero, binL_rem4, binL_rem256, binL_quo256, Option.map_some, ls, lz, m0, m1, m2, t1, t3, t4, tk, hlt, hix, hrow, hn, hst, d0, d1, hlen, c0, c1, c2, c3, hpg, c4]) <;> rfl) ?_ | with_reducible refine gdk_i rfl ?_ | with_reducible refine gds_i rfl ?_ | with_reducible refine gds_u ?_ | rw [gd_true] | rw [gd_false']
      refine ok_a (by simp only [put_at, Nat.reduceEqDiff, reduceIte, t3]) (marks_ok (cap := .ex 128) hbl HB.seen (by decide) (IntKind.i64.wrap (s.1.tdiv 256)) (pagesN (lenLV s.2))) ?_
      rintro _ _ ⟨rfl, rfl⟩
      repeat first | with_reducible refine vK_i (by (simp only [zz1, zz2, zz3, zz4, zz5, zz6, zz7, zz8, zz9, zz10, zz11, zz12, zz13, zz14, fa, blen, Nat.reduceEqDiff, reduceIte, decide_true, decide_false, Bool.not_true, Bool.not_false, Nat.zero_add, Nat.add_zero, binL_rem4, binL_rem256, binL_quo256, Option.map_some, ls, lz, m0, m1, m2, t1, t3, t4, tk, hlt, hix, hrow, hn, hst, d0, d1, hlen, c0, c1, c2, c3, hpg, c4]) <;> rfl) ?_ | with_reducible refine oK_i (by (simp only [zz1, zz2, zz3, zz4, zz5, zz6, zz7, zz8, zz9, zz10, zz11, zz12, zz13, zz14, fa, blen, Nat.reduceEqDiff, reduceIte, decide_true, decide_false, Bool.not_true, Bool.not_false, Nat.zero_add, Nat.add_zero, binL_rem4, binL_rem256, binL_quo256, Option.map_some, ls, lz, m0, m1, m2, t1, t3, t4, tk, hlt, hix, hrow, hn, hst, d0, d1, hlen, c0, c1, c2, c3, hpg, c4]) <;> rfl) ?_ | with_reducible refine gdv_i rfl (by (simp only [zz1, zz2, zz3, zz4, zz5, zz6, zz7, zz8, zz9, zz10, zz11, zz12, zz13, zz14, fa, blen, Nat.reduceEqDiff, reduceIte, decide_true, decide_false, Bool.not_true, Bool.not_false, Nat.zero_add, Nat.add_zero, binL_rem4, binL_rem256, binL_quo256, Option.map_some, ls, lz, m0, m1, m2, t1, t3, t4, tk, hlt, hix, hrow, hn, hst, d0, d1, hlen, c0, c1, c2, c3, hpg, c4]) <;> rfl) ?_ | with_reducible refine gdo_i rfl (by (simp only [zz1, zz2, zz3, zz4, zz5, zz6, zz7, zz8, zz9, zz10, zz11, zz12, zz13, zz14, fa, blen, Nat.reduceEqDiff, reduceIte, decide_true, decide_false, Bool.not_true, Bool.not_false, Nat.zero_add, Nat.add_zero, binL_rem4, binL_rem256, binL_quo256, Option.map_some, ls, lz, m0, m1, m2, t1, t3, t4, tk, hlt, hix, hrow, hn, hst, d0, d1, hlen, c0, c1, c2, c3, hpg, c4]) <;> rfl) ?_ | with_reducible refine gdk_i rfl ?_ | with_reducible refine gds_i rfl ?_ | with_reducible refine gds_u ?_ | rw [gd_true] | rw [gd_false']
      repeat first | rw [then_normal] | rw [then_ret] | rw [then_exit] | rw [exit_normal] | rw [exit_ret] | rw [round_normal] | rw [round_exit] | rw [round_ret] | (rw [exit_exit]; simp only [Nat.reduceEqDiff, reduceIte])
      rw [n42_32_eq]
      refine ifB_t (by (simp only [zz1, zz2, zz3, zz4, zz5, zz6, zz7, zz8, zz9, zz10, zz11, zz12, zz13, zz14, fa, blen, Nat.reduceEqDiff, reduceIte, decide_true, decide_false, Bool.not_true, Bool.not_false, Nat.zero_add, Nat.add_zero, binL_rem4, binL_rem256, binL_quo256, Option.map_some, ls, lz, m0, m1, m2, t1, t3, t4, tk, hlt, hix, hrow, hn, hst, d0, d1, hlen, c0, c1, c2, c3, hpg, c4]) <;> rfl) ?_
      rw [n42_33_eq, c2_seq]
      rw [n42_34_eq]
      skip
      repeat first | rw [then_normal] | rw [then_ret] | rw [then_exit] | rw [exit_normal] | rw [exit_ret] | rw [round_normal] | rw [round_exit] | rw [round_ret] | (rw [exit_exit]; simp only [Nat.reduceEqDiff, reduceIte])
      rw [n42_35_eq, c2_ret]
      repeat first | rw [then_normal] | rw [then_ret] | rw [then_exit] | rw [exit_normal] | rw [exit_ret] | rw [round_normal] | rw [round_exit] | rw [round_ret] | (rw [exit_exit]; simp only [Nat.reduceEqDiff, reduceIte])
      exact hend _ _ 230 _ _ rfl (by simp only [put_at, Nat.reduceEqDiff, reduceIte]) (by rw [hr, hc, hdrop]; simp [chkSegs, c4])
    | true =>
      have hsz : IntKind.i64.wrap (headN segs.length zs.length + sumLen (segs.take k) + lenLV s.2) = headN segs.length zs.length + sumLen (segs.take (k + 1)) := by
        rw [sumLen_take hsk, IntWalk.i64_in _ ⟨by unfold headN; omega, by unfold headN; omega⟩]; omega
      have hk1 : IntKind.i64.wrap ((k : Int) + 1) = ((k + 1 : Nat) : Int) := by rw [IntWalk.i64_in _ ⟨by omega, by omega⟩]; rfl
      have hcond : ¬ (s.1 < 0 ∨ s.1.tmod 256 ≠ 0 ∨ (16384 : Int) < lenLV s.2) := by
        rintro (hx | hx | hx)
        · exact c1 hx
        · exact hx c2'
        · exact c3 hx
      rw [n42_19_eq, c2_seq]
      rw [n42_20_eq, c2_seq]
      rw [n42_21_eq]
      repeat first | with_reducible refine vK_i (by (simp only [zz1, zz2, zz3, zz4, zz5, zz6, zz7, zz8, zz9, zz10, zz11, zz12, zz13, zz14, fa, blen, Nat.reduceEqDiff, reduceIte, decide_true, decide_false, Bool.not_true, Bool.not_false, Nat.zero_add, Nat.add_zero, binL_rem4, binL_rem256, binL_quo256, Option.map_some, ls, lz, m0, m1, m2, t1, t3, t4, tk, hlt, hix, hrow, hn, hst, d0, d1, hlen, c0, c1, c2, c3, hpg, c4, d2, hsz, hk1]) <;> rfl) ?_ | with_reducible refine oK_i (by (simp only [zz1, zz2, zz3, zz4, zz5, zz6, zz7, zz8, zz9, zz10, zz11, zz12, zz13, zz14, fa, blen, Nat.reduceEqDiff, reduceIte, decide_true, decide_false, Bool.not_true, Bool.not_false, Nat.zero_add, Nat.add_zero, binL_rem4, binL_rem256, binL_quo256, Option.map_some, ls, lz, m0, m1, m2, t1, t3, t4, tk, hlt, hix, hrow, hn, hst, d0, d1, hlen, c0, c1, c2, c3, hpg, c4, d2, hsz, hk1]) <;> rfl) ?_
      repeat first | rw [then_normal] | rw [then_ret] | rw [then_exit] | rw [exit_normal] | rw [exit_ret] | rw [round_normal] | rw [round_exit] | rw [round_ret] | (rw [exit_exit]; simp only [Nat.reduceEqDiff, reduceIte])
      rw [n42_22_eq]
      refine ifB_t (by (simp only [zz1, zz2, zz3, zz4, zz5, zz6, zz7, zz8, zz9, zz10, zz11, zz12, zz13, zz14, fa, blen, Nat.reduceEqDiff, reduceIte, decide_true, decide_false, Bool.not_true, Bool.not_false, Nat.zero_add, Nat.add_zero, binL_rem4, binL_rem256, binL_quo256, Option.map_some, ls, lz, m0, m1, m2, t1, t3, t4, tk, hlt, hix, hrow, hn, hst, d0, d1, hlen, c0, c1, c2, c3, hpg, c4, d2, hsz, hk1]) <;> rfl) ?_
      rw [n42_23_eq, c2_skip]
      repeat first | rw [then_normal] | rw [then_ret] | rw [then_exit] | rw [exit_normal] | rw [exit_ret] | rw [round_normal] | rw [round_exit] | rw [round_ret] | (rw [exit_exit]; simp only [Nat.reduceEqDiff, reduceIte])
      rw [n42_25_eq, c2_seq]
      rw [n42_26_eq, c2_block]
      rw [n42_27_eq, c2_seq]
      rw [n42_28_eq]
      repeat first | with_reducible refine vK_i (by (simp only [zz1, zz2, zz3, zz4, zz5, zz6, zz7, zz8, zz9, zz10, zz11, zz12, zz13, zz14, fa, blen, Nat.reduceEqDiff, reduceIte, decide_true, decide_false, Bool.not_true, Bool.not_false, Nat.zero_add, Nat.add_zero, binL_rem4, binL_rem256, binL_quo256, Option.map_some, ls, lz, m0, m1, m2, t1, t3, t4, tk, hlt, hix, hrow, hn, hst, d0, d1, hlen, c0, c1, c2, c3, hpg, c4, d2, hsz, hk1]) <;> rfl) ?_ | with_reducible refine oK_i (by (simp only [zz1, zz2, zz3, zz4, zz5, zz6, zz7, zz8, zz9, zz10, zz11, zz12, zz13, zz14, fa, blen, Nat.reduceEqDiff, reduceIte, decide_true, decide_false, Bool.not_true, Bool.not_false, Nat.zero_add, Nat.add_zero, binL_rem4, binL_rem256, binL_quo256, Option.map_some, ls, lz, m0, m1, m2, t1, t3, t4, tk, hlt, hix, hrow, hn, hst, d0, d1, hlen, c0, c1, c2, c3, hpg, c4, d2, hsz, hk1]) <;> rfl) ?_ | with_reducible refine gK_i (by (simp only [zz1, zz2, zz3, zz4, zz5, zz6, zz7, zz8, zz9, zz10, zz11, zz12, zz13, zz14, fa, blen, Nat.reduceEqDiff, reduceIte, decide_true, decide_false, Bool.not_true, Bool.not_false, Nat.zero_add, Nat.add_zero, binL_rem4, binL_rem256, binL_quo256, Option.map_some, ls, lz, m0, m1, m2, t1, t3, t4, tk, hlt, hix, hrow, hn, hst, d0, d1, hlen, c0, c1, c2, c3, hpg, c4, d2, hsz, hk1]) <;> rfl) ?_
      repeat first | rw [then_normal] | rw [then_ret] | rw [then_exit] | rw [exit_normal] | rw [exit_ret] | rw [round_normal] | rw [round_exit] | rw [round_ret] | (rw [exit_exit]; simp only [Nat.reduceEqDiff, reduceIte])
      rw [n42_29_eq, c2_seq]
      rw [n42_30_eq, c2_seq]
      rw [n42_31_eq]
      repeat first | with_reducible refine vK_i (by (simp only [zz1, zz2, zz3, zz4, zz5, zz6, zz7, zz8, zz9, zz10, zz11, zz12, zz13, zz14, fa, blen, Nat.reduceEqDiff, reduceIte, decide_true, decide_false, Bool.not_true, Bool.not_false, Nat.zero_add, Nat.add_zero, binL_rem4, binL_rem256, binL_quo256, Option.map_some, ls, lz, m0, m1, m2, t1, t3, t4, tk, hlt, hix, hrow, hn, hst, d0, d1, hlen, c0, c1, c2, c3, hpg, c4, d2, hsz, hk1]) <;> rfl) ?_ | with_reducible refine oK_i (by (simp only [zz1, zz2, zz3, zz4, zz5, zz6, zz7, zz8, zz9, zz10, zz11, zz12, zz13, zz14, fa, blen, Nat.reduceEqDiff, reduceIte, decide_true, decide_false, Bool.not_true, Bool.not_false, Nat.zero_add, Nat.add_zero, binL_rem4, binL_rem256, binL_quo256, Option.map_some, ls, lz, m0, m1, m2, t1, t3, t4, tk, hlt, hix, hrow, hn, hst, d0, d1, hlen, c0, c1, c2, c3, hpg, c4, d2, hsz, hk1]) <;> rfl) ?_ | with_reducible refine gdv_i rfl (by (simp only [zz1, zz2, zz3, zz4, zz5, zz6, zz7, zz8, zz9, zz10, zz11, zz12, zz13, zz14, fa, blen, Nat.reduceEqDiff, reduceIte, decide_true, decide_false, Bool.not_true, Bool.not_false, Nat.zero_add, Nat.add_zero, binL_rem4, binL_rem256, binL_quo256, Option.map_some, ls, lz, m0, m1, m2, t1, t3, t4, tk, hlt, hix, hrow, hn, hst, d0, d1, hlen, c0, c1, c2, c3, hpg, c4, d2, hsz, hk1]) <;> rfl) ?_ | with_reducible refine gdo_i rfl (by (simp only [zz1, zz2, zz3, zz4, zz5, zz6, zz7, zz8, zz9, zz10, zz11, zz12, zz13, zz14, fa, blen, Nat.reduceEqDiff, reduceIte, decide_true, decide_false, Bool.not_true, Bool.not_false, Nat.zero_add, Nat.add_zero, binL_rem4, binL_rem256, binL_quo256, Option.map_some, ls, lz, m0, m1, m2, t1, t3, t4, tk, hlt, hix, hrow, hn, hst, d0, d1, hlen, c0, c1, c2, c3, hpg, c4, d2, hsz, hk1]) <;> rfl) ?_ | with_reducible refine gdk_i rfl ?_ | with_reducible refine gds_i rfl ?_ | with_reducible refine gds_u ?_ | rw [gd_true] | rw [gd_false']
      refine ok_a (by simp only [put_at, Nat.reduceEqDiff, reduceIte, t3]) (marks_ok (cap := .ex 128) hbl HB.seen (by decide) (IntKind.i64.wrap (s.1.tdiv 256)) (pagesN (lenLV s.2))) ?_
      rintro _ _ ⟨rfl, rfl⟩
      repeat first | with_reducible refine vK_i (by (simp only [zz1, zz2, zz3, zz4, zz5, zz6, zz7, zz8, zz9, zz10, zz11, zz12, zz13, zz14, fa, blen, Nat.reduceEqDiff, reduceIte, decide_true, decide_false, Bool.not_true, Bool.not_false, Nat.zero_add, Nat.add_zero, binL_rem4, binL_rem256, binL_quo256, Option.map_some, ls, lz, m0, m1, m2, t1, t3, t4, tk, hlt, hix, hrow, hn, hst, d0, d1, hlen, c0, c1, c2, c3, hpg, c4, d2, hsz, hk1]) <;> rfl) ?_ | with_reducible refine oK_i (by (simp only [zz1, zz2, zz3, zz4, zz5, zz6, zz7, zz8, zz9, zz10, zz11, zz12, zz13, zz14, fa, blen, Nat.reduceEqDiff, reduceIte, decide_true, decide_false, Bool.not_true, Bool.not_false, Nat.zero_add, Nat.add_zero, binL_rem4, binL_rem256, binL_quo256, Option.map_some, ls, lz, m0, m1, m2, t1, t3, t4, tk, hlt, hix, hrow, hn, hst, d0, d1, hlen, c0, c1, c2, c3, hpg, c4, d2, hsz, hk1]) <;> rfl) ?_ | with_reducible refine gdv_i rfl (by (simp only [zz1, zz2, zz3, zz4, zz5, zz6, zz7, zz8, zz9, zz10, zz11, zz12, zz13, zz14, fa, blen, Nat.reduceEqDiff, reduceIte, decide_true, decide_false, Bool.not_true, Bool.not_false, Nat.zero_add, Nat.add_zero, binL_rem4, binL_rem256, binL_quo256, Option.map_some, ls, lz, m0, m1, m2, t1, t3, t4, tk, hlt, hix, hrow, hn, hst, d0, d1, hlen, c0, c1, c2, c3, hpg, c4, d2, hsz, hk1]) <;> rfl) ?_ | with_reducible refine gdo_i rfl (by (simp only [zz1, zz2, zz3, zz4, zz5, zz6, zz7, zz8, zz9, zz10, zz11, zz12, zz13, zz14, fa, blen, Nat.reduceEqDiff, reduceIte, decide_true, decide_false, Bool.not_true, Bool.not_false, Nat.zero_add, Nat.add_zero, binL_rem4, binL_rem256, binL_quo256, Option.map_some, ls, lz, m0, m1, m2, t1, t3, t4, tk, hlt, hix, hrow, hn, hst, d0, d1, hlen, c0, c1, c2, c3, hpg, c4, d2, hsz, hk1]) <;> rfl) ?_ | with_reducible refine gdk_i rfl ?_ | with_reducible refine gds_i rfl ?_ | with_reducible refine gds_u ?_ | rw [gd_true] | rw [gd_false']
      repeat first | rw [then_normal] | rw [then_ret] | rw [then_exit] | rw [exit_normal] | rw [exit_ret] | rw [round_normal] | rw [round_exit] | rw [round_ret] | (rw [exit_exit]; simp only [Nat.reduceEqDiff, reduceIte])
      rw [n42_32_eq]
      refine ifB_f (by (simp only [zz1, zz2, zz3, zz4, zz5, zz6, zz7, zz8, zz9, zz10, zz11, zz12, zz13, zz14, fa, blen, Nat.reduceEqDiff, reduceIte, decide_true, decide_false, Bool.not_true, Bool.not_false, Nat.zero_add, Nat.add_zero, binL_rem4, binL_rem256, binL_quo256, Option.map_some, ls, lz, m0, m1, m2, t1, t3, t4, tk, hlt, hix, hrow, hn, hst, d0, d1, hlen, c0, c1, c2, c3, hpg, c4, d2, hsz, hk1]) <;> rfl) ?_
      rw [n42_36_eq, c2_skip]
      repeat first | rw [then_normal] | rw [then_ret] | rw [then_exit] | rw [exit_normal] | rw [exit_ret] | rw [round_normal] | rw [round_exit] | rw [round_ret] | (rw [exit_exit]; simp only [Nat.reduceEqDiff, reduceIte])
      rw [n42_37_eq]
      repeat first | with_reducible refine vK_i (by (simp only [zz1, zz2, zz3, zz4, zz5, zz6, zz7, zz8, zz9, zz10, zz11, zz12, zz13, zz14, fa, blen, Nat.reduceEqDiff, reduceIte, decide_true, decide_false, Bool.not_true, Bool.not_false, Nat.zero_add, Nat.add_zero, binL_rem4, binL_rem256, binL_quo256, Option.map_some, ls, lz, m0, m1, m2, t1, t3, t4, tk, hlt, hix, hrow, hn, hst, d0, d1, hlen, c0, c1, c2, c3, hpg, c4, d2, hsz, hk1]) <;> rfl) ?_ | with_reducible refine oK_i (by (simp only [zz1, zz2, zz3, zz4, zz5, zz6, zz7, zz8, zz9, zz10, zz11, zz12, zz13, zz14, fa, blen, Nat.reduceEqDiff, reduceIte, decide_true, decide_false, Bool.not_true, Bool.not_false, Nat.zero_add, Nat.add_zero, binL_rem4, binL_rem256, binL_quo256, Option.map_some, ls, lz, m0, m1, m2, t1, t3, t4, tk, hlt, hix, hrow, hn, hst, d0, d1, hlen, c0, c1, c2, c3, hpg, c4, d2, hsz, hk1]) <;> rfl) ?_
      repeat first | rw [then_normal] | rw [then_ret] | rw [then_exit] | rw [exit_normal] | rw [exit_ret] | rw [round_normal] | rw [round_exit] | rw [round_ret] | (rw [exit_exit]; simp only [Nat.reduceEqDiff, reduceIte])
      rw [n42_38_eq]
      repeat first | with_reducible refine vK_i (by (simp only [zz1, zz2, zz3, zz4, zz5, zz6, zz7, zz8, zz9, zz10, zz11, zz12, zz13, zz14, fa, blen, Nat.reduceEqDiff, reduceIte, decide_true, decide_false, Bool.not_true, Bool.not_false, Nat.zero_add, Nat.add_zero, binL_rem4, binL_rem256, binL_quo256, Option.map_some, ls, lz, m0, m1, m2, t1, t3, t4, tk, hlt, hix, hrow, hn, hst, d0, d1, hlen, c0, c1, c2, c3, hpg, c4, d2, hsz, hk1]) <;> rfl) ?_
      repeat first | rw [then_normal] | rw [then_ret] | rw [then_exit] | rw [exit_normal] | rw [exit_ret] | rw [round_normal] | rw [round_exit] | rw [round_ret] | (rw [exit_exit]; simp only [Nat.reduceEqDiff, reduceIte])
      refine ⟨⟨k + 1, (reachB (IntKind.i64.wrap (s.1.tdiv 256)) (pagesN (lenLV s.2)) bs).2, ⟨by simp only [put_at, Nat.reduceEqDiff, reduceIte, t1], by simp only [put_at, Nat.reduceEqDiff, reduceIte, t3], by simp only [put_at, Nat.reduceEqDiff, reduceIte], by simp only [put_at, Nat.reduceEqDiff, reduceIte]⟩, by omega, by rw [reachB_len, hbl], HB.mark _, ?_, ?_, ?_⟩, ?_⟩
      · rw [hc, hdrop, chkSegs, if_neg hcond, if_pos c4]
      · rw [sumLen_take hsk]; omega
      · rw [sumLen_take hsk]; omega
      · have hm : segs.length - (k + 1) < segs.length - k := by omega
        simp only [put_at, Nat.reduceEqDiff, reduceIte, tk, Int.toNat_natCast]
        exact hm
  · have hke : k = segs.length := by omega
    have hc' : chkSegs segs (List.replicate 128 false) = some bs := by rw [hc, hke, List.drop_length]; rfl
    rw [hke, List.take_length] at t4 z0 z1
    rw [n42_19_eq, c2_seq]
    rw [n42_20_eq, c2_seq]
    rw [n42_21_eq]
    repeat first | with_reducible refine vK_i (by (simp only [zz1, zz2, zz3, zz4, zz5, zz6, zz7, zz8, zz9, zz10, zz11, zz12, zz13, zz14, fa, blen, Nat.reduceEqDiff, reduceIte, decide_true, decide_false, Bool.not_true, Bool.not_false, Nat.zero_add, Nat.add_zero, binL_rem4, binL_rem256, binL_quo256, Option.map_some, ls, lz, m0, m1, m2, t1, t3, t4, tk, hlt]) <;> rfl) ?_ | with_reducible refine oK_i (by (simp only [zz1, zz2, zz3, zz4, zz5, zz6, zz7, zz8, zz9, zz10, zz11, zz12, zz13, zz14, fa, blen, Nat.reduceEqDiff, reduceIte, decide_true, decide_false, Bool.not_true, Bool.not_false, Nat.zero_add, Nat.add_zero, binL_rem4, binL_rem256, binL_quo256, Option.map_some, ls, lz, m0, m1, m2, t1, t3, t4, tk, hlt]) <;> rfl) ?_
    repeat first | rw [then_normal] | rw [then_ret] | rw [then_exit] | rw [exit_normal] | rw [exit_ret] | rw [round_normal] | rw [round_exit] | rw [round_ret] | (rw [exit_exit]; simp only [Nat.reduceEqDiff, reduceIte])
    rw [n42_22_eq]
    refine ifB_f (by (simp only [zz1, zz2, zz3, zz4, zz5, zz6, zz7, zz8, zz9, zz10, zz11, zz12, zz13, zz14, fa, blen, Nat.reduceEqDiff, reduceIte, decide_true, decide_false, Bool.not_true, Bool.not_false, Nat.zero_add, Nat.add_zero, binL_rem4, binL_rem256, binL_quo256, Option.map_some, ls, lz, m0, m1, m2, t1, t3, t4, tk, hlt]) <;> rfl) ?_
    rw [n42_24_eq, c2_exit]
    repeat first | rw [then_normal] | rw [then_ret] | rw [then_exit] | rw [exit_normal] | rw [exit_ret] | rw [round_normal] | rw [round_exit] | rw [round_ret] | (rw [exit_exit]; simp only [Nat.reduceEqDiff, reduceIte])
    rw [n42_39_eq, c2_seq]
    rw [n42_40_eq, c2_seq]
    rw [n42_41_eq]
    skip
    repeat first | rw [then_normal] | rw [then_ret] | rw [then_exit] | rw [exit_normal] | rw [exit_ret] | rw [round_normal] | rw [round_exit] | rw [round_ret] | (rw [exit_exit]; simp only [Nat.reduceEqDiff, reduceIte])
    rw [n42_42_eq, c2_block]
    rw [n42_43_eq, c2_loop]
    refine loop_of (fun s => ∃ (k : Nat) (bs' : List Bool), (s.tm 1 = .ptr g.next 0 ∧ s.tm 3 = .slice (g.next + 1) 0 128 (.ex 128) ∧ s.tm 4 = i (headN segs.length zs.length + sumLen segs) ∧ s.tm 7 = i (k : Int)) ∧ k ≤ zs.length ∧ bs'.length = 128 ∧ Hp g s.g [i en, SV, ZV] bs' ∧ chkZeros zs bs = chkZeros (zs.drop k) bs') (fun s => zs.length - (match s.tm 7 with | .int _ x => x.toNat | _ => 0)) ?_ ?_
    · exact ⟨0, bs, ⟨by simp only [put_at, Nat.reduceEqDiff, reduceIte, t1], by simp only [put_at, Nat.reduceEqDiff, reduceIte, t3], by simp only [put_at, Nat.reduceEqDiff, reduceIte, t4], by simp only [put_at, Nat.reduceEqDiff, reduceIte]; rfl⟩, Nat.zero_le _, hbl, H, by simp⟩
    clear t1 t3 t4 tk hlt m0 m1 m2 hk hke hc H
    rintro ⟨tm', h⟩ ⟨k, bs', ⟨t1, t3, t4, tk⟩, hk, hbl', H, hc⟩
    simp only at t1 t3 t4 tk H
    obtain ⟨m0, m1, m2⟩ := H.ld
    by_cases hlt : (k : Int) < zs.length
    · have hkl : k < zs.length := by omega
      obtain ⟨z, hzk⟩ : ∃ z, zs[k]? = some z := ⟨_, List.getElem?_eq_getElem hkl⟩
      have hdrop : zs.drop k = z :: zs.drop (k + 1) := by rw [List.drop_eq_getElem_cons hkl]; rw [List.getElem?_eq_getElem hkl] at hzk; cases hzk; rfl
      obtain ⟨a, ha, hix, hrow⟩ := row_at hz (k := k) (x := i z.1) (y := i z.2) (by rw [List.getElem?_map, hzk]; rfl)
      obtain ⟨hrow, r0, r1⟩ := hrow h (H.low a ha)
      cases c4 : (reachB z.1 z.2 bs').1 with
      | false =>
        rw [n42_44_eq, c2_seq]
        rw [n42_45_eq, c2_seq]
        rw [n42_46_eq]
        repeat first | with_reducible refine vK_i (by (simp only [zz1, zz2, zz3, zz4, zz5, zz6, zz7, zz8, zz9, zz10, zz11, zz12, zz13, zz14, fa, blen, Nat.reduceEqDiff, reduceIte, decide_true, decide_false, Bool.not_true, Bool.not_false, Nat.zero_add, Nat.add_zero, binL_rem4, binL_rem256, binL_quo256, Option.map_some, ls, lz, m0, m1, m2, t1, t3, t4, tk, hlt, hix, hrow, r0, r1, c4]) <;> rfl) ?_ | with_reducible refine oK_i (by (simp only [zz1, zz2, zz3, zz4, zz5, zz6, zz7, zz8, zz9, zz10, zz11, zz12, zz13, zz14, fa, blen, Nat.reduceEqDiff, reduceIte, decide_true, decide_false, Bool.not_true, Bool.not_false, Nat.zero_add, Nat.add_zero, binL_rem4, binL_rem256, binL_quo256, Option.map_some, ls, lz, m0, m1, m2, t1, t3, t4, tk, hlt, hix, hrow, r0, r1, c4]) <;> rfl) ?_
        repeat first | rw [then_normal] | rw [then_ret] | rw [then_exit] | rw [exit_normal] | rw [exit_ret] | rw [round_normal] | rw [round_exit] | rw [round_ret] | (rw [exit_exit]; simp only [Nat.reduceEqDiff, reduceIte])
        rw [n42_47_eq]
        refine ifB_t (by (simp only [zz1, zz2, zz3, zz4, zz5, zz6, zz7, zz8, zz9, zz10, zz11, zz12, zz13, zz14, fa, blen, Nat.reduceEqDiff, reduceIte, decide_true, decide_false, Bool.not_true, Bool.not_false, Nat.zero_add, Nat.add_zero, binL_rem4, binL_rem256, binL_quo256, Option.map_some, ls, lz, m0, m1, m2, t1, t3, t4, tk, hlt, hix, hrow, r0, r1, c4]) <;> rfl) ?_
        rw [n42_48_eq, c2_skip]
        repeat first | rw [then_normal] | rw [then_ret] | rw [then_exit] | rw [exit_normal] | rw [exit_ret] | rw [round_normal] | rw [round_exit] | rw [round_ret] | (rw [exit_exit]; simp only [Nat.reduceEqDiff, reduceIte])
        rw [n42_50_eq, c2_seq]
        rw [n42_51_eq, c2_block]
        rw [n42_52_eq, c2_seq]
        rw [n42_53_eq]
        repeat first | refine And.intro ?_ trivial | with_reducible refine vK_i (by (simp only [zz1, zz2, zz3, zz4, zz5, zz6, zz7, zz8, zz9, zz10, zz11, zz12, zz13, zz14, fa, blen, Nat.reduceEqDiff, reduceIte, decide_true, decide_false, Bool.not_true, Bool.not_false, Nat.zero_add, Nat.add_zero, binL_rem4, binL_rem256, binL_quo256, Option.map_some, ls, lz, m0, m1, m2, t1, t3, t4, tk, hlt, hix, hrow, r0, r1, c4]) <;> rfl) ?_ | with_reducible refine gdVv_i rfl (by (simp only [zz1, zz2, zz3, zz4, zz5, zz6, zz7, zz8, zz9, zz10, zz11, zz12, zz13, zz14, fa, blen, Nat.reduceEqDiff, reduceIte, decide_true, decide_false, Bool.not_true, Bool.not_false, Nat.zero_add, Nat.add_zero, binL_rem4, binL_rem256, binL_quo256, Option.map_some, ls, lz, m0, m1, m2, t1, t3, t4, tk, hlt, hix, hrow, r0, r1, c4]) <;> rfl) ?_ | with_reducible refine gdDv_i rfl (by (simp only [zz1, zz2, zz3, zz4, zz5, zz6, zz7, zz8, zz9, zz10, zz11, zz12, zz13, zz14, fa, blen, Nat.reduceEqDiff, reduceIte, decide_true, decide_false, Bool.not_true, Bool.not_false, Nat.zero_add, Nat.add_zero, binL_rem4, binL_rem256, binL_quo256, Option.map_some, ls, lz, m0, m1, m2, t1, t3, t4, tk, hlt, hix, hrow, r0, r1, c4]) <;> rfl) ?_ | with_reducible refine gdVs_i rfl ?_ | with_reducible refine gdVs_u ?_ | with_reducible refine gdDs_i rfl ?_ | with_reducible refine gdDs_u ?_
        refine ok_a (by simp only [put_at, Nat.reduceEqDiff, reduceIte, t3]) (marks_ok (cap := .ex 128) hbl' H.seen (by decide) z.1 z.2) ?_
        rintro _ _ ⟨rfl, rfl⟩
        repeat first | refine And.intro ?_ trivial | with_reducible refine vK_i (by (simp only [zz1, zz2, zz3, zz4, zz5, zz6, zz7, zz8, zz9, zz10, zz11, zz12, zz13, zz14, fa, blen, Nat.reduceEqDiff, reduceIte, decide_true, decide_false, Bool.not_true, Bool.not_false, Nat.zero_add, Nat.add_zero, binL_rem4, binL_rem256, binL_quo256, Option.map_some, ls, lz, m0, m1, m2, t1, t3, t4, tk, hlt, hix, hrow, r0, r1, c4]) <;> rfl) ?_ | with_reducible refine gdVv_i rfl (by (simp only [zz1, zz2, zz3, zz4, zz5, zz6, zz7, zz8, zz9, zz10, zz11, zz12, zz13, zz14, fa, blen, Nat.reduceEqDiff, reduceIte, decide_true, decide_false, Bool.not_true, Bool.not_false, Nat.zero_add, Nat.add_zero, binL_rem4, binL_rem256, binL_quo256, Option.map_some, ls, lz, m0, m1, m2, t1, t3, t4, tk, hlt, hix, hrow, r0, r1, c4]) <;> rfl) ?_ | with_reducible refine gdDv_i rfl (by (simp only [zz1, zz2, zz3, zz4, zz5, zz6, zz7, zz8, zz9, zz10, zz11, zz12, zz13, zz14, fa, blen, Nat.reduceEqDiff, reduceIte, decide_true, decide_false, Bool.not_true, Bool.not_false, Nat.zero_add, Nat.add_zero, binL_rem4, binL_rem256, binL_quo256, Option.map_some, ls, lz, m0, m1, m2, t1, t3, t4, tk, hlt, hix, hrow, r0, r1, c4]) <;> rfl) ?_ | with_reducible refine gdVs_i rfl ?_ | with_reducible refine gdVs_u ?_ | with_reducible refine gdDs_i rfl ?_ | with_reducible refine gdDs_u ?_
        repeat first | rw [then_normal] | rw [then_ret] | rw [then_exit] | rw [exit_normal] | rw [exit_ret] | rw [round_normal] | rw [round_exit] | rw [round_ret] | (rw [exit_exit]; simp only [Nat.reduceEqDiff, reduceIte])
        rw [n42_54_eq]
        refine ifB_t (by (simp only [zz1, zz2, zz3, zz4, zz5, zz6, zz7, zz8, zz9, zz10, zz11, zz12, zz13, zz14, fa, blen, Nat.reduceEqDiff, reduceIte, decide_true, decide_false, Bool.not_true, Bool.not_false, Nat.zero_add, Nat.add_zero, binL_rem4, binL_rem256, binL_quo256, Option.map_some, ls, lz, m0, m1, m2, t1, t3, t4, tk, hlt, hix, hrow, r0, r1, c4]) <;> rfl) ?_
        rw [n42_55_eq, c2_seq]
        rw [n42_56_eq]
        skip
        repeat first | rw [then_normal] | rw [then_ret] | rw [then_exit] | rw [exit_normal] | rw [exit_ret] | rw [round_normal] | rw [round_exit] | rw [round_ret] | (rw [exit_exit]; simp only [Nat.reduceEqDiff, reduceIte])
        rw [n42_57_eq, c2_ret]
        repeat first | rw [then_normal] | rw [then_ret] | rw [then_exit] | rw [exit_normal] | rw [exit_ret] | rw [round_normal] | rw [round_exit] | rw [round_ret] | (rw [exit_exit]; simp only [Nat.reduceEqDiff, reduceIte])
        exact hend _ _ 230 _ _ rfl (by simp only [put_at, Nat.reduceEqDiff, reduceIte]) (by rw [hr, hc']; simp only [hc, hdrop, chkZeros, c4]; rfl)
      | true =>
        have hk1 : IntKind.i64.wrap ((k : Int) + 1) = ((k + 1 : Nat) : Int) := by rw [IntWalk.i64_in _ ⟨by omega, by omega⟩]; rfl
        rw [n42_44_eq, c2_seq]
        rw [n42_45_eq, c2_seq]
        rw [n42_46_eq]
        repeat first | with_reducible refine vK_i (by (simp only [zz1, zz2, zz3, zz4, zz5, zz6, zz7, zz8, zz9, zz10, zz11, zz12, zz13, zz14, fa, blen, Nat.reduceEqDiff, reduceIte, decide_true, decide_false, Bool.not_true, Bool.not_false, Nat.zero_add, Nat.add_zero, binL_rem4, binL_rem256, binL_quo256, Option.map_some, ls, lz, m0, m1, m2, t1, t3, t4, tk, hlt, hix, hrow, r0, r1, c4, hk1]) <;> rfl) ?_ | with_reducible refine oK_i (by (simp only [zz1, zz2, zz3, zz4, zz5, zz6, zz7, zz8, zz9, zz10, zz11, zz12, zz13, zz14, fa, blen, Nat.reduceEqDiff, reduceIte, decide_true, decide_false, Bool.not_true, Bool.not_false, Nat.zero_add, Nat.add_zero, binL_rem4, binL_rem256, binL_quo256, Option.map_some, ls, lz, m0, m1, m2, t1, t3, t4, tk, hlt, hix, hrow, r0, r1, c4, hk1]) <;> rfl) ?_
        repeat first | rw [then_normal] | rw [then_ret] | rw [then_exit] | rw [exit_normal] | rw [exit_ret] | rw [round_normal] | rw [round_exit] | rw [round_ret] | (rw [exit_exit]; simp only [Nat.reduceEqDiff, reduceIte])
        rw [n42_47_eq]
        refine ifB_t (by (simp only [zz1, zz2, zz3, zz4, zz5, zz6, zz7, zz8, zz9, zz10, zz11, zz12, zz13, zz14, fa, blen, Nat.reduceEqDiff, reduceIte, decide_true, decide_false, Bool.not_true, Bool.not_false, Nat.zero_add, Nat.add_zero, binL_rem4, binL_rem256, binL_quo256, Option.map_some, ls, lz, m0, m1, m2, t1, t3, t4, tk, hlt, hix, hrow, r0, r1, c4, hk1]) <;> rfl) ?_
        rw [n42_48_eq, c2_skip]
        repeat first | rw [then_normal] | rw [then_ret] | rw [then_exit] | rw [exit_normal] | rw [exit_ret] | rw [round_normal] | rw [round_exit] | rw [round_ret] | (rw [exit_exit]; simp only [Nat.reduceEqDiff, reduceIte])
        rw [n42_50_eq, c2_seq]
        rw [n42_51_eq, c2_block]
        rw [n42_52_eq, c2_seq]
        rw [n42_53_eq]
        repeat first | refine And.intro ?_ trivial | with_reducible refine vK_i (by (simp only [zz1, zz2, zz3, zz4, zz5, zz6, zz7, zz8, zz9, zz10, zz11, zz12, zz13, zz14, fa, blen, Nat.reduceEqDiff, reduceIte, decide_true, decide_false, Bool.not_true, Bool.not_false, Nat.zero_add, Nat.add_zero, binL_rem4, binL_rem256, binL_quo256, Option.map_some, ls, lz, m0, m1, m2, t1, t3, t4, tk, hlt, hix, hrow, r0, r1, c4, hk1]) <;> rfl) ?_ | with_reducible refine gdVv_i rfl (by (simp only [zz1, zz2, zz3, zz4, zz5, zz6, zz7, zz8, zz9, zz10, zz11, zz12, zz13, zz14, fa, blen, Nat.reduceEqDiff, reduceIte, decide_true, decide_false, Bool.not_true, Bool.not_false, Nat.zero_add, Nat.add_zero, binL_rem4, binL_rem256, binL_quo256, Option.map_some, ls, lz, m0, m1, m2, t1, t3, t4, tk, hlt, hix, hrow, r0, r1, c4, hk1]) <;> rfl) ?_ | with_reducible refine gdDv_i rfl (by (simp only [zz1, zz2, zz3, zz4, zz5, zz6, zz7, zz8, zz9, zz10, zz11, zz12, zz13, zz14, fa, blen, Nat.reduceEqDiff, reduceIte, decide_true, decide_false, Bool.not_true, Bool.not_false, Nat.zero_add, Nat.add_zero, binL_rem4, binL_rem256, binL_quo256, Option.map_some, ls, lz, m0, m1, m2, t1, t3, t4, tk, hlt, hix, hrow, r0, r1, c4, hk1]) <;> rfl) ?_ | with_reducible refine gdVs_i rfl ?_ | with_reducible refine gdVs_u ?_ | with_reducible refine gdDs_i rfl ?_ | with_reducible refine gdDs_u ?_
        refine ok_a (by simp only [put_at, Nat.reduceEqDiff, reduceIte, t3]) (marks_ok (cap := .ex 128) hbl' H.seen (by decide) z.1 z.2) ?_
        rintro _ _ ⟨rfl, rfl⟩
        repeat first | refine And.intro ?_ trivial | with_reducible refine vK_i (by (simp only [zz1, zz2, zz3, zz4, zz5, zz6, zz7, zz8, zz9, zz10, zz11, zz12, zz13, zz14, fa, blen, Nat.reduceEqDiff, reduceIte, decide_true, decide_false, Bool.not_true, Bool.not_false, Nat.zero_add, Nat.add_zero, binL_rem4, binL_rem256, binL_quo256, Option.map_some, ls, lz, m0, m1, m2, t1, t3, t4, tk, hlt, hix, hrow, r0, r1, c4, hk1]) <;> rfl) ?_ | with_reducible refine gdVv_i rfl (by (simp only [zz1, zz2, zz3, zz4, zz5, zz6, zz7, zz8, zz9, zz10, zz11, zz12, zz13, zz14, fa, blen, Nat.reduceEqDiff, reduceIte, decide_true, decide_false, Bool.not_true, Bool.not_false, Nat.zero_add, Nat.add_zero, binL_rem4, binL_rem256, binL_quo256, Option.map_some, ls, lz, m0, m1, m2, t1, t3, t4, tk, hlt, hix, hrow, r0, r1, c4, hk1]) <;> rfl) ?_ | with_reducible refine gdDv_i rfl (by (simp only [zz1, zz2, zz3, zz4, zz5, zz6, zz7, zz8, zz9, zz10, zz11, zz12, zz13, zz14, fa, blen, Nat.reduceEqDiff, reduceIte, decide_true, decide_false, Bool.not_true, Bool.not_false, Nat.zero_add, Nat.add_zero, binL_rem4, binL_rem256, binL_quo256, Option.map_some, ls, lz, m0, m1, m2, t1, t3, t4, tk, hlt, hix, hrow, r0, r1, c4, hk1]) <;> rfl) ?_ | with_reducible refine gdVs_i rfl ?_ | with_reducible refine gdVs_u ?_ | with_reducible refine gdDs_i rfl ?_ | with_reducible refine gdDs_u ?_
        repeat first | rw [then_normal] | rw [then_ret] | rw [then_exit] | rw [exit_normal] | rw [exit_ret] | rw [round_normal] | rw [round_exit] | rw [round_ret] | (rw [exit_exit]; simp only [Nat.reduceEqDiff, reduceIte])
        rw [n42_54_eq]
        refine ifB_f (by (simp only [zz1, zz2, zz3, zz4, zz5, zz6, zz7, zz8, zz9, zz10, zz11, zz12, zz13, zz14, fa, blen, Nat.reduceEqDiff, reduceIte, decide_true, decide_false, Bool.not_true, Bool.not_false, Nat.zero_add, Nat.add_zero, binL_rem4, binL_rem256, binL_quo256, Option.map_some, ls, lz, m0, m1, m2, t1, t3, t4, tk, hlt, hix, hrow, r0, r1, c4, hk1]) <;> rfl) ?_
        rw [n42_58_eq, c2_skip]
        repeat first | rw [then_normal] | rw [then_ret] | rw [then_exit] | rw [exit_normal] | rw [exit_ret] | rw [round_normal] | rw [round_exit] | rw [round_ret] | (rw [exit_exit]; simp only [Nat.reduceEqDiff, reduceIte])
        rw [n42_59_eq]
        repeat first | with_reducible refine vK_i (by (simp only [zz1, zz2, zz3, zz4, zz5, zz6, zz7, zz8, zz9, zz10, zz11, zz12, zz13, zz14, fa, blen, Nat.reduceEqDiff, reduceIte, decide_true, decide_false, Bool.not_true, Bool.not_false, Nat.zero_add, Nat.add_zero, binL_rem4, binL_rem256, binL_quo256, Option.map_some, ls, lz, m0, m1, m2, t1, t3, t4, tk, hlt, hix, hrow, r0, r1, c4, hk1]) <;> rfl) ?_
        repeat first | rw [then_normal] | rw [then_ret] | rw [then_exit] | rw [exit_normal] | rw [exit_ret] | rw [round_normal] | rw [round_exit] | rw [round_ret] | (rw [exit_exit]; simp only [Nat.reduceEqDiff, reduceIte])
        refine ⟨⟨k + 1, (reachB z.1 z.2 bs').2, ⟨by simp only [put_at, Nat.reduceEqDiff, reduceIte, t1], by simp only [put_at, Nat.reduceEqDiff, reduceIte, t3], by simp only [put_at, Nat.reduceEqDiff, reduceIte, t4], by simp only [put_at, Nat.reduceEqDiff, reduceIte]⟩, by omega, by rw [reachB_len, hbl'], H.mark _, ?_⟩, ?_⟩
        · rw [hc, hdrop, chkZeros, if_pos c4]
        · have hm : zs.length - (k + 1) < zs.length - k := by omega
          simp only [put_at, Nat.reduceEqDiff, reduceIte, tk, Int.toNat_natCast]
          exact hm
    · have hke : k = zs.length := by omega
      have hc2 : chkZeros zs bs = some bs' := by rw [hc, hke, List.drop_length]; rfl
      rw [n42_44_eq, c2_seq]
      rw [n42_45_eq, c2_seq]
      rw [n42_46_eq]
      repeat first | with_reducible refine vK_i (by (simp only [zz1, zz2, zz3, zz4, zz5, zz6, zz7, zz8, zz9, zz10, zz11, zz12, zz13, zz14, fa, blen, Nat.reduceEqDiff, reduceIte, decide_true, decide_false, Bool.not_true, Bool.not_false, Nat.zero_add, Nat.add_zero, binL_rem4, binL_rem256, binL_quo256, Option.map_some, ls, lz, m0, m1, m2, t1, t3, t4, tk, hlt]) <;> rfl) ?_ | with_reducible refine oK_i (by (simp only [zz1, zz2, zz3, zz4, zz5, zz6, zz7, zz8, zz9, zz10, zz11, zz12, zz13, zz14, fa, blen, Nat.reduceEqDiff, reduceIte, decide_true, decide_false, Bool.not_true, Bool.not_false, Nat.zero_add, Nat.add_zero, binL_rem4, binL_rem256, binL_quo256, Option.map_some, ls, lz, m0, m1, m2, t1, t3, t4, tk, hlt]) <;> rfl) ?_
      repeat first | rw [then_normal] | rw [then_ret] | rw [then_exit] | rw [exit_normal] | rw [exit_ret] | rw [round_normal] | rw [round_exit] | rw [round_ret] | (rw [exit_exit]; simp only [Nat.reduceEqDiff, reduceIte])
      rw [n42_47_eq]
      refine ifB_f (by (simp only [zz1, zz2, zz3, zz4, zz5, zz6, zz7, zz8, zz9, zz10, zz11, zz12, zz13, zz14, fa, blen, Nat.reduceEqDiff, reduceIte, decide_true, decide_false, Bool.not_true, Bool.not_false, Nat.zero_add, Nat.add_zero, binL_rem4, binL_rem256, binL_quo256, Option.map_some, ls, lz, m0, m1, m2, t1, t3, t4, tk, hlt]) <;> rfl) ?_
      rw [n42_49_eq, c2_exit]
      repeat first | rw [then_normal] | rw [then_ret] | rw [then_exit] | rw [exit_normal] | rw [exit_ret] | rw [round_normal] | rw [round_exit] | rw [round_ret] | (rw [exit_exit]; simp only [Nat.reduceEqDiff, reduceIte])
      by_cases hbig : 16384 < headN segs.length zs.length + sumLen segs
      · skip
        rw [n42_60_eq, c2_seq]
        rw [n42_61_eq, c2_seq]
        rw [n42_62_eq]
        repeat first | with_reducible refine vK_i (by (simp only [zz1, zz2, zz3, zz4, zz5, zz6, zz7, zz8, zz9, zz10, zz11, zz12, zz13, zz14, fa, blen, Nat.reduceEqDiff, reduceIte, decide_true, decide_false, Bool.not_true, Bool.not_false, Nat.zero_add, Nat.add_zero, binL_rem4, binL_rem256, binL_quo256, Option.map_some, ls, lz, m0, m1, m2, t1, t3, t4, tk, hbig]) <;> rfl) ?_
        repeat first | rw [then_normal] | rw [then_ret] | rw [then_exit] | rw [exit_normal] | rw [exit_ret] | rw [round_normal] | rw [round_exit] | rw [round_ret] | (rw [exit_exit]; simp only [Nat.reduceEqDiff, reduceIte])
        rw [n42_63_eq]
        refine ifB_t (by (simp only [zz1, zz2, zz3, zz4, zz5, zz6, zz7, zz8, zz9, zz10, zz11, zz12, zz13, zz14, fa, blen, Nat.reduceEqDiff, reduceIte, decide_true, decide_false, Bool.not_true, Bool.not_false, Nat.zero_add, Nat.add_zero, binL_rem4, binL_rem256, binL_quo256, Option.map_some, ls, lz, m0, m1, m2, t1, t3, t4, tk, hbig]) <;> rfl) ?_
        rw [n42_64_eq, c2_seq]
        rw [n42_65_eq]
        skip
        repeat first | rw [then_normal] | rw [then_ret] | rw [then_exit] | rw [exit_normal] | rw [exit_ret] | rw [round_normal] | rw [round_exit] | rw [round_ret] | (rw [exit_exit]; simp only [Nat.reduceEqDiff, reduceIte])
        rw [n42_66_eq, c2_ret]
        repeat first | rw [then_normal] | rw [then_ret] | rw [then_exit] | rw [exit_normal] | rw [exit_ret] | rw [round_normal] | rw [round_exit] | rw [round_ret] | (rw [exit_exit]; simp only [Nat.reduceEqDiff, reduceIte])
        exact hend _ _ 230 _ _ rfl (by simp only [put_at, Nat.reduceEqDiff, reduceIte]) (by rw [hr, hc']; simp only [hc2]; rw [if_pos hbig])
      · skip
        rw [n42_60_eq, c2_seq]
        rw [n42_61_eq, c2_seq]
        rw [n42_62_eq]
        repeat first | with_reducible refine vK_i (by (simp only [zz1, zz2, zz3, zz4, zz5, zz6, zz7, zz8, zz9, zz10, zz11, zz12, zz13, zz14, fa, blen, Nat.reduceEqDiff, reduceIte, decide_true, decide_false, Bool.not_true, Bool.not_false, Nat.zero_add, Nat.add_zero, binL_rem4, binL_rem256, binL_quo256, Option.map_some, ls, lz, m0, m1, m2, t1, t3, t4, tk, hbig]) <;> rfl) ?_
        repeat first | rw [then_normal] | rw [then_ret] | rw [then_exit] | rw [exit_normal] | rw [exit_ret] | rw [round_normal] | rw [round_exit] | rw [round_ret] | (rw [exit_exit]; simp only [Nat.reduceEqDiff, reduceIte])
        rw [n42_63_eq]
        refine ifB_f (by (simp only [zz1, zz2, zz3, zz4, zz5, zz6, zz7, zz8, zz9, zz10, zz11, zz12, zz13, zz14, fa, blen, Nat.reduceEqDiff, reduceIte, decide_true, decide_false, Bool.not_true, Bool.not_false, Nat.zero_add, Nat.add_zero, binL_rem4, binL_rem256, binL_quo256, Option.map_some, ls, lz, m0, m1, m2, t1, t3, t4, tk, hbig]) <;> rfl) ?_
        rw [n42_67_eq, c2_skip]
        repeat first | rw [then_normal] | rw [then_ret] | rw [then_exit] | rw [exit_normal] | rw [exit_ret] | rw [round_normal] | rw [round_exit] | rw [round_ret] | (rw [exit_exit]; simp only [Nat.reduceEqDiff, reduceIte])
        rw [n42_68_eq, c2_seq]
        rw [n42_69_eq]
        skip
        repeat first | rw [then_normal] | rw [then_ret] | rw [then_exit] | rw [exit_normal] | rw [exit_ret] | rw [round_normal] | rw [round_exit] | rw [round_ret] | (rw [exit_exit]; simp only [Nat.reduceEqDiff, reduceIte])
        rw [n42_70_eq, c2_ret]
        repeat first | rw [then_normal] | rw [then_ret] | rw [then_exit] | rw [exit_normal] | rw [exit_ret] | rw [round_normal] | rw [round_exit] | rw [round_ret] | (rw [exit_exit]; simp only [Nat.reduceEqDiff, reduceIte])
        exact hend _ _ 0 _ _ rfl (by simp only [put_at, Nat.reduceEqDiff, reduceIte]) (by rw [hr, hc']; simp only [hc2]; rw [if_neg hbig])

end Go.Proofs.Ytaofgdibpbpalaa
