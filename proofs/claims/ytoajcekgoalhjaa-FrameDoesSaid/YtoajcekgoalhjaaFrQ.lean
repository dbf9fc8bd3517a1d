/-
  Functions of the program, as texts of named values.
-/
import Derived.Test.YtoajcekgoalhjaaBf0
set_option linter.all false
namespace Go.Proofs.Ytoajcekgoalhjaa
open Go.ChangeShapes Go.WideShapes Go.ChangeAt Go.RowKit Go.Lm
set_option maxRecDepth 1000000
set_option linter.unusedVariables false
/-! parapet/parapetlaw06.zero (31 slots) -/
noncomputable def en23 (K : LV → LHeap → Prop) : LEx → LSt → Prop := fun e st => match e with
  | .exit _ => False
  | _ => K (st.tm 4) st.g
theorem en23_eq (K : LV → LHeap → Prop) : en23 K = endL Try.prog Try.f23 K := by
  funext e st
  cases e <;> kernel_rfl
noncomputable def nd23 (p : List Nat) : Code := subC p (bodyC Try.prog 23)
noncomputable def J23_2 (x5 x6 : LV) (g : LHeap)  (K : LV → LHeap → Prop) : Prop :=
  vK (binL Try.prog .eql 24 true x6 (.int .i64 (0))) fun t25 =>
  gd t25 true g (fun K => K x5 g) fun t27 g =>
  gd t25 true g (fun K => oK (builtinL Try.prog .len [33] [t27] g) K) fun t28 g =>
  gd t25 true g (fun K => vK (binL Try.prog .eql 3 true t28 (.int .i64 (256))) fun v => K v g) fun t29 g =>
  vK (pickL t25 t29 (.bool false)) fun t30 =>
  K t30 g
abbrev kj23_2  (K : LV → LHeap → Prop) : LSt → Prop := fun st => J23_2 (st.tm 5) (st.tm 6) st.g  K
theorem J23_2_ok  (K : LV → LHeap → Prop) (tm : Nat → LV) (g : LHeap) (h : J23_2 (tm 5) (tm 6) g  K) : codeL Try.prog (Ok Try.prog) (nd23 [1, 1, 1]) ⟨tm, g⟩ (en23 K) := by
  try unfold J23_2 at h
  refine code2_sound ok_mono _ _ _ ?_
  refine kmp ?_ h
  generalize Ok Try.prog = C
  try unfold en23
  as_aux_lemma => kernel_rfl

noncomputable def L23_4 (x5 x6 x15 x16 : LV) (x17 : LV) (g : LHeap) (N4 : LV → LHeap → Prop) (K : LV → LHeap → Prop) : Prop :=
  vK (binL Try.prog .lss 3 false x17 x16) fun t18 =>
  ifB t18 (
  vK (ixAddrL none 1 x15 x17) fun t19 =>
  vK (loadV none t19 g) fun t20 =>
  vK (binL Try.prog .neq 5 true t20 (.int .u8 (0))) fun t22 =>
  ifB t22 (
  K (.bool false) g) (
  vK (binL Try.prog .add 3 true x17 (.int .i64 (1))) fun t23 =>
  N4 t23 g)) (
  J23_2 x5 x6 g  K)
theorem L23_4_ok (R4 : LV × LV × LV × LV → LV → LHeap → Prop) (K : LV → LHeap → Prop) (tm : Nat → LV) (g : LHeap) (h : L23_4 (tm 5) (tm 6) (tm 15) (tm 16) (tm 17) g (fun s g => R4 ((tm 5), (tm 6), (tm 15), (tm 16)) s g) K) : codeL Try.prog (Ok Try.prog) (nd23 [1, 1, 0, 1, 0, 0]) ⟨tm, g⟩ (roundK (fun tm : Nat → LV => (tm 5, tm 6, tm 15, tm 16)) (fun tm : Nat → LV => tm 17) R4 (exitL 0 (thenL (kj23_2  K) (en23 K)))) := by
  try unfold L23_4 at h
  unfold kj23_2
  generalize @J23_2 = Q23_2 at h ⊢
  refine code2_sound ok_mono _ _ _ ?_
  refine kmp ?_ h
  generalize Ok Try.prog = C
  try unfold en23
  as_aux_lemma => kernel_rfl

noncomputable def J23_3 (x5 x6 x15 x16 x17 : LV) (g : LHeap)  (K : LV → LHeap → Prop) : Prop :=
  loopP (fun s g N => L23_4 x5 x6 x15 x16 s g N  K) x17 g
abbrev kj23_3  (K : LV → LHeap → Prop) : LSt → Prop := fun st => J23_3 (st.tm 5) (st.tm 6) (st.tm 15) (st.tm 16) (st.tm 17) st.g  K
theorem J23_3_ok  (K : LV → LHeap → Prop) (tm : Nat → LV) (g : LHeap) (h : J23_3 (tm 5) (tm 6) (tm 15) (tm 16) (tm 17) g  K) : codeL Try.prog (Ok Try.prog) (nd23 [1, 1, 0, 1]) ⟨tm, g⟩ (thenL (kj23_2  K) (en23 K)) := by
  refine block_i (b := nd23 [1, 1, 0, 1, 0]) (i := 0) (by kernel_rfl) ?_
  exact loop_glue (b := nd23 [1, 1, 0, 1, 0, 0]) (by kernel_rfl) (fun tm : Nat → LV => (tm 5, tm 6, tm 15, tm 16)) (fun tm : Nat → LV => tm 17) (fun a s g N => L23_4 a.1 a.2.1 a.2.2.1 a.2.2.2 s g N  K) (fun tm g R h => L23_4_ok R  K tm g h) tm g h

noncomputable def J23_1 (x5 x6 : LV) (g : LHeap)  (K : LV → LHeap → Prop) : Prop :=
  oK (builtinL Try.prog .len [33] [x5] g) fun t16 g =>
  J23_3 x5 x6 x5 t16 (.int .i64 (0)) g  K
abbrev kj23_1  (K : LV → LHeap → Prop) : LSt → Prop := fun st => J23_1 (st.tm 5) (st.tm 6) st.g  K
theorem J23_1_ok  (K : LV → LHeap → Prop) (tm : Nat → LV) (g : LHeap) (h : J23_1 (tm 5) (tm 6) g  K) : codeL Try.prog (Ok Try.prog) (nd23 [1, 1]) ⟨tm, g⟩ (en23 K) := by
  refine seq_i (a := nd23 [1, 1, 0]) (b := nd23 [1, 1, 1]) (k' := kj23_2  K) (by kernel_rfl) (fun st h => J23_2_ok  K st.tm st.g h) ?_
  refine seq_i (a := nd23 [1, 1, 0, 0]) (b := nd23 [1, 1, 0, 1]) (k' := kj23_3  K) (by kernel_rfl) (fun st h => J23_3_ok  K st.tm st.g h) ?_
  try unfold J23_1 at h
  unfold kj23_3
  generalize @J23_3 = Q23_3 at h ⊢
  unfold kj23_2
  generalize @J23_2 = Q23_2 at h ⊢
  refine code2_sound ok_mono _ _ _ ?_
  refine kmp ?_ h
  generalize Ok Try.prog = C
  try unfold en23
  as_aux_lemma => kernel_rfl

noncomputable def J23_0 (x0 x1 : LV) (g : LHeap)  (K : LV → LHeap → Prop) : Prop :=
  Ok Try.prog 57 [x0, x1] g fun t12 g =>
  vK (extractL t12 0) fun t13 =>
  vK (extractL t12 1) fun t14 =>
  J23_1 t13 t14 g  K
abbrev kj23_0  (K : LV → LHeap → Prop) : LSt → Prop := fun st => J23_0 (st.tm 0) (st.tm 1) st.g  K
theorem J23_0_ok  (K : LV → LHeap → Prop) (tm : Nat → LV) (g : LHeap) (h : J23_0 (tm 0) (tm 1) g  K) : codeL Try.prog (Ok Try.prog) (nd23 [1]) ⟨tm, g⟩ (en23 K) := by
  refine seq_i (a := nd23 [1, 0]) (b := nd23 [1, 1]) (k' := kj23_1  K) (by kernel_rfl) (fun st h => J23_1_ok  K st.tm st.g h) ?_
  try unfold J23_0 at h
  unfold kj23_1
  generalize @J23_1 = Q23_1 at h ⊢
  refine code2_sound ok_mono _ _ _ ?_
  refine kmp ?_ h
  generalize Ok Try.prog = C
  try unfold en23
  as_aux_lemma => kernel_rfl

noncomputable def F23 (x0 x1 : LV) (g : LHeap) (K : LV → LHeap → Prop) : Prop :=
  J23_0 x0 x1 g  K
theorem ok23 {x0 x1 : LV} {g : LHeap} {K : LV → LHeap → Prop} (h : g.Wf → (∀ v ∈ ([x0, x1] : List LV), ∀ b ∈ v.objs, b < g.next) → F23 x0 x1 g K) : Ok Try.prog 23 [x0, x1] g K := by
  refine ok_fw Try.mixed Try.func23 (by kernel_rfl) (by kernel_rfl) (c := nd23 []) (by kernel_rfl) fun wf lt => ?_
  rw [← en23_eq]
  replace h := h wf lt
  generalize hs : startL _ = tm
  replace h : F23 (tm 0) (tm 1) g K := by rw [← hs]; exact h
  refine seq_i (a := nd23 [0]) (b := nd23 [1]) (k' := kj23_0  K) (by kernel_rfl) (fun st h => J23_0_ok  K st.tm st.g h) ?_
  try unfold F23 at h
  unfold kj23_0
  generalize @J23_0 = Q23_0 at h ⊢
  refine code2_sound ok_mono _ _ _ ?_
  refine kmp ?_ h
  generalize Ok Try.prog = C
  try unfold en23
  as_aux_lemma => kernel_rfl

/-! parapet/parapetlaw06.sameInts (26 slots) -/
noncomputable def en51 (K : LV → LHeap → Prop) : LEx → LSt → Prop := fun e st => match e with
  | .exit _ => False
  | _ => K (st.tm 4) st.g
theorem en51_eq (K : LV → LHeap → Prop) : en51 K = endL Try.prog Try.f51 K := by
  funext e st
  cases e <;> kernel_rfl
noncomputable def nd51 (p : List Nat) : Code := subC p (bodyC Try.prog 51)
noncomputable def J51_2 (g : LHeap)  (K : LV → LHeap → Prop) : Prop :=
  K (.bool true) g
abbrev kj51_2  (K : LV → LHeap → Prop) : LSt → Prop := fun st => J51_2  st.g  K
theorem J51_2_ok  (K : LV → LHeap → Prop) (tm : Nat → LV) (g : LHeap) (h : J51_2  g  K) : codeL Try.prog (Ok Try.prog) (nd51 [1, 1, 1]) ⟨tm, g⟩ (en51 K) := by
  try unfold J51_2 at h
  refine code2_sound ok_mono _ _ _ ?_
  refine kmp ?_ h
  generalize Ok Try.prog = C
  try unfold en51
  as_aux_lemma => kernel_rfl

noncomputable def L51_4 (x0 x1 x12 : LV) (x13 : LV) (g : LHeap) (N4 : LV → LHeap → Prop) (K : LV → LHeap → Prop) : Prop :=
  vK (binL Try.prog .lss 3 false x13 x12) fun t14 =>
  ifB t14 (
  vK (ixAddrL none 1 x0 x13) fun t18 =>
  vK (loadV none t18 g) fun t19 =>
  vK (ixAddrL none 1 x1 x13) fun t22 =>
  vK (loadV none t22 g) fun t23 =>
  vK (binL Try.prog .neq 3 false t19 t23) fun t24 =>
  ifB t24 (
  K (.bool false) g) (
  vK (binL Try.prog .add 3 true x13 (.int .i64 (1))) fun t25 =>
  N4 t25 g)) (
  J51_2  g  K)
theorem L51_4_ok (R4 : LV × LV × LV → LV → LHeap → Prop) (K : LV → LHeap → Prop) (tm : Nat → LV) (g : LHeap) (h : L51_4 (tm 0) (tm 1) (tm 12) (tm 13) g (fun s g => R4 ((tm 0), (tm 1), (tm 12)) s g) K) : codeL Try.prog (Ok Try.prog) (nd51 [1, 1, 0, 1, 0, 0]) ⟨tm, g⟩ (roundK (fun tm : Nat → LV => (tm 0, tm 1, tm 12)) (fun tm : Nat → LV => tm 13) R4 (exitL 0 (thenL (kj51_2  K) (en51 K)))) := by
  try unfold L51_4 at h
  unfold kj51_2
  generalize @J51_2 = Q51_2 at h ⊢
  refine code2_sound ok_mono _ _ _ ?_
  refine kmp ?_ h
  generalize Ok Try.prog = C
  try unfold en51
  as_aux_lemma => kernel_rfl

noncomputable def J51_3 (x0 x1 x12 x13 : LV) (g : LHeap)  (K : LV → LHeap → Prop) : Prop :=
  loopP (fun s g N => L51_4 x0 x1 x12 s g N  K) x13 g
abbrev kj51_3  (K : LV → LHeap → Prop) : LSt → Prop := fun st => J51_3 (st.tm 0) (st.tm 1) (st.tm 12) (st.tm 13) st.g  K
theorem J51_3_ok  (K : LV → LHeap → Prop) (tm : Nat → LV) (g : LHeap) (h : J51_3 (tm 0) (tm 1) (tm 12) (tm 13) g  K) : codeL Try.prog (Ok Try.prog) (nd51 [1, 1, 0, 1]) ⟨tm, g⟩ (thenL (kj51_2  K) (en51 K)) := by
  refine block_i (b := nd51 [1, 1, 0, 1, 0]) (i := 0) (by kernel_rfl) ?_
  exact loop_glue (b := nd51 [1, 1, 0, 1, 0, 0]) (by kernel_rfl) (fun tm : Nat → LV => (tm 0, tm 1, tm 12)) (fun tm : Nat → LV => tm 13) (fun a s g N => L51_4 a.1 a.2.1 a.2.2 s g N  K) (fun tm g R h => L51_4_ok R  K tm g h) tm g h

noncomputable def J51_1 (x0 x1 : LV) (g : LHeap)  (K : LV → LHeap → Prop) : Prop :=
  oK (builtinL Try.prog .len [50] [x0] g) fun t12 g =>
  J51_3 x0 x1 t12 (.int .i64 (0)) g  K
abbrev kj51_1  (K : LV → LHeap → Prop) : LSt → Prop := fun st => J51_1 (st.tm 0) (st.tm 1) st.g  K
theorem J51_1_ok  (K : LV → LHeap → Prop) (tm : Nat → LV) (g : LHeap) (h : J51_1 (tm 0) (tm 1) g  K) : codeL Try.prog (Ok Try.prog) (nd51 [1, 1]) ⟨tm, g⟩ (en51 K) := by
  refine seq_i (a := nd51 [1, 1, 0]) (b := nd51 [1, 1, 1]) (k' := kj51_2  K) (by kernel_rfl) (fun st h => J51_2_ok  K st.tm st.g h) ?_
  refine seq_i (a := nd51 [1, 1, 0, 0]) (b := nd51 [1, 1, 0, 1]) (k' := kj51_3  K) (by kernel_rfl) (fun st h => J51_3_ok  K st.tm st.g h) ?_
  try unfold J51_1 at h
  unfold kj51_3
  generalize @J51_3 = Q51_3 at h ⊢
  unfold kj51_2
  generalize @J51_2 = Q51_2 at h ⊢
  refine code2_sound ok_mono _ _ _ ?_
  refine kmp ?_ h
  generalize Ok Try.prog = C
  try unfold en51
  as_aux_lemma => kernel_rfl

noncomputable def J51_0 (x0 x1 : LV) (g : LHeap)  (K : LV → LHeap → Prop) : Prop :=
  oK (builtinL Try.prog .len [50] [x0] g) fun t7 g =>
  oK (builtinL Try.prog .len [50] [x1] g) fun t9 g =>
  vK (binL Try.prog .neq 3 false t7 t9) fun t10 =>
  ifB t10 (
  K (.bool false) g) (
  J51_1 x0 x1 g  K)
abbrev kj51_0  (K : LV → LHeap → Prop) : LSt → Prop := fun st => J51_0 (st.tm 0) (st.tm 1) st.g  K
theorem J51_0_ok  (K : LV → LHeap → Prop) (tm : Nat → LV) (g : LHeap) (h : J51_0 (tm 0) (tm 1) g  K) : codeL Try.prog (Ok Try.prog) (nd51 [1]) ⟨tm, g⟩ (en51 K) := by
  refine seq_i (a := nd51 [1, 0]) (b := nd51 [1, 1]) (k' := kj51_1  K) (by kernel_rfl) (fun st h => J51_1_ok  K st.tm st.g h) ?_
  try unfold J51_0 at h
  unfold kj51_1
  generalize @J51_1 = Q51_1 at h ⊢
  refine code2_sound ok_mono _ _ _ ?_
  refine kmp ?_ h
  generalize Ok Try.prog = C
  try unfold en51
  as_aux_lemma => kernel_rfl

noncomputable def F51 (x0 x1 : LV) (g : LHeap) (K : LV → LHeap → Prop) : Prop :=
  J51_0 x0 x1 g  K
theorem ok51 {x0 x1 : LV} {g : LHeap} {K : LV → LHeap → Prop} (h : g.Wf → (∀ v ∈ ([x0, x1] : List LV), ∀ b ∈ v.objs, b < g.next) → F51 x0 x1 g K) : Ok Try.prog 51 [x0, x1] g K := by
  refine ok_fw Try.mixed Try.func51 (by kernel_rfl) (by kernel_rfl) (c := nd51 []) (by kernel_rfl) fun wf lt => ?_
  rw [← en51_eq]
  replace h := h wf lt
  generalize hs : startL _ = tm
  replace h : F51 (tm 0) (tm 1) g K := by rw [← hs]; exact h
  refine seq_i (a := nd51 [0]) (b := nd51 [1]) (k' := kj51_0  K) (by kernel_rfl) (fun st h => J51_0_ok  K st.tm st.g h) ?_
  try unfold F51 at h
  unfold kj51_0
  generalize @J51_0 = Q51_0 at h ⊢
  refine code2_sound ok_mono _ _ _ ?_
  refine kmp ?_ h
  generalize Ok Try.prog = C
  try unfold en51
  as_aux_lemma => kernel_rfl

/-! parapet/parapetlaw06.awake (81 slots) -/
noncomputable def en19 (K : LV → LHeap → Prop) : LEx → LSt → Prop := fun e st => match e with
  | .exit _ => False
  | _ => K (st.tm 0) st.g
theorem en19_eq (K : LV → LHeap → Prop) : en19 K = endL Try.prog Try.f19 K := by
  funext e st
  cases e <;> kernel_rfl
noncomputable def nd19 (p : List Nat) : Code := subC p (bodyC Try.prog 19)
noncomputable def F19 (g : LHeap) (K : LV → LHeap → Prop) : Prop :=
  Ok Try.prog 20 [(.int .i64 (24))] g fun t10 g =>
  vK (extractL t10 0) fun t11 =>
  vK (extractL t10 1) fun t12 =>
  vK (binL Try.prog .neq 24 true t12 (.int .i64 (0))) fun t14 =>
  gd t14 false g (fun K => K t11 g) fun t16 g =>
  gd t14 false g (fun K => vK (binL Try.prog .eql 44 true t16 .nilp) fun v => K v g) fun t17 g =>
  vK (pickL t14 (.bool true) t17) fun t18 =>
  ifB t18 (
  K (.bool false) g) (
  Ok Try.prog 21 [t11, (.int .i64 (4)), (.int .i64 (20)), (.int .i64 (2))] g fun t21 g =>
  vK (extractL t21 0) fun t22 =>
  vK (extractL t21 1) fun t23 =>
  vK (binL Try.prog .neq 24 true t23 (.int .i64 (0))) fun t25 =>
  gd t25 false g (fun K => K t22 g) fun t27 g =>
  gd t25 false g (fun K => vK (binL Try.prog .eql 47 true t27 .nilp) fun v => K v g) fun t28 g =>
  vK (pickL t25 (.bool true) t28) fun t29 =>
  gd t29 false g (fun K => K t22 g) fun t31 g =>
  gd t29 false g (fun K => Ok Try.prog 33 [t31] g K) fun t32 g =>
  gd t29 false g (fun K => vK (binL Try.prog .eql 69 true t32 .nilf) fun v => K v g) fun t33 g =>
  vK (pickL t29 (.bool true) t33) fun t34 =>
  gd t34 false g (fun K => K .nilp g) fun t36 g =>
  gd t34 false g (fun K => Ok Try.prog 33 [t36] g K) fun t37 g =>
  gd t34 false g (fun K => vK (binL Try.prog .eql 69 true t37 .nilf) fun v => K v g) fun t38 g =>
  vK (pickL t34 (.bool true) t38) fun t39 =>
  ifB t39 (
  K (.bool false) g) (
  Ok Try.prog 22 [t22, (.int .i64 (0))] g fun t42 g =>
  vK (extractL t42 0) fun t43 =>
  vK (extractL t42 1) fun t44 =>
  Ok Try.prog 31 [t22, (.int .i64 (0))] g fun t46 g =>
  Ok Try.prog 25 [t22, (.int .i64 (1)), t43] g fun t50 g =>
  vK (extractL t50 0) fun t51 =>
  vK (extractL t50 1) fun t52 =>
  vK (binL Try.prog .eql 3 true t43 (.int .i64 (11))) fun t54 =>
  gd t54 true g (fun K => K t44 g) fun t56 g =>
  gd t54 true g (fun K => vK (binL Try.prog .eql 24 true t56 (.int .i64 (0))) fun v => K v g) fun t57 g =>
  vK (pickL t54 t57 (.bool false)) fun t58 =>
  gd t58 true g (fun K => K t46 g) fun t60 g =>
  gd t58 true g (fun K => oK (buildSliceL Try.prog 50 7 [(0, (.int .i64 (4))), (1, (.int .i64 (5))), (2, (.int .i64 (6))), (3, (.int .i64 (7))), (4, (.int .i64 (8))), (5, (.int .i64 (9))), (6, (.int .i64 (10)))] g) K) fun t61 g =>
  gd t58 true g (fun K => Ok Try.prog 51 [t60, t61] g K) fun t62 g =>
  vK (pickL t58 t62 (.bool false)) fun t63 =>
  gd t63 true g (fun K => K t51 g) fun t65 g =>
  vK (pickL t63 t65 (.bool false)) fun t66 =>
  gd t66 true g (fun K => K t52 g) fun t68 g =>
  gd t66 true g (fun K => vK (binL Try.prog .eql 24 true t68 (.int .i64 (0))) fun v => K v g) fun t69 g =>
  vK (pickL t66 t69 (.bool false)) fun t70 =>
  gd t70 true g (fun K => K t22 g) fun t72 g =>
  gd t70 true g (fun K => Ok Try.prog 31 [t72, (.int .i64 (1))] g K) fun t73 g =>
  gd t70 true g (fun K => oK (buildSliceL Try.prog 50 1 [(0, (.int .i64 (11)))] g) K) fun t74 g =>
  gd t70 true g (fun K => Ok Try.prog 51 [t73, t74] g K) fun t75 g =>
  vK (pickL t70 t75 (.bool false)) fun t76 =>
  gd t76 true g (fun K => K t22 g) fun t78 g =>
  gd t76 true g (fun K => Ok Try.prog 28 [t78] g K) fun t79 g =>
  vK (pickL t76 t79 (.bool false)) fun t80 =>
  K t80 g))
theorem ok19 {g : LHeap} {K : LV → LHeap → Prop} (h : g.Wf → (∀ v ∈ ([] : List LV), ∀ b ∈ v.objs, b < g.next) → F19  g K) : Ok Try.prog 19 [] g K := by
  refine ok_fw Try.mixed Try.func19 (by kernel_rfl) (by kernel_rfl) (c := nd19 []) (by kernel_rfl) fun wf lt => ?_
  rw [← en19_eq]
  replace h := h wf lt
  generalize startL _ = tm
  try unfold F19 at h
  refine code2_sound ok_mono _ _ _ ?_
  refine kmp ?_ h
  generalize Ok Try.prog = C
  try unfold en19
  as_aux_lemma => kernel_rfl

end Go.Proofs.Ytoajcekgoalhjaa
