/-
  Functions of the program, as texts of named values.
-/
import Derived.Test.YtoajcekgoalhjaaBf0
set_option linter.all false
namespace Go.Proofs.Ytoajcekgoalhjaa
open Go.ChangeShapes Go.WideShapes Go.ChangeAt Go.RowKit Go.Lm
set_option maxRecDepth 1000000
set_option linter.unusedVariables false
/-! parapet/parapetlaw06.zero (31 slots) -/
noncomputable def en23 (K : LV → LHeap → Prop) : LEx → LSt → Prop := fun e st => match e with
  | .exit _ => False
  | _ => K (st.tm 4) st.g
theorem en23_eq (K : LV → LHeap → Prop) : en23 K = endL Try.prog Try.f23 K := by
  funext e st
  cases e <;> kernel_rfl
noncomputable def nd23 (p : List Nat) : Code := subC p (bodyC Try.prog 23)
noncomputable def J23_2 (x5 x6 : LV) (g : LHeap)  (K : LV → LHeap → Prop) : Prop :=
  vK (binL Try.prog .eql 24 true x6 (.int .i64 (0))) fun t25 =>
  gd t25 true g (fun K => K x5 g) fun t27 g =>
  gd t25 true g (fun K => oK (builtinL Try.prog .len [33] [t27] g) K) fun t28 g =>
  gd t25 true g (fun K => vK (binL Try.prog .eql 3 true t28 (.int .i64 (256))) fun v => K v g) fun t29 g =>
  vK (pickL t25 t29 (.bool false)) fun t30 =>
  K t30 g
abbrev kj23_2  (K : LV → LHeap → Prop) : LSt → Prop := fun st => J23_2 (st.tm 5) (st.tm 6) st.g  K
theorem J23_2_ok  (K : LV → LHeap → Prop) (tm : Nat → LV) (g : LHeap) (h : J23_2 (tm 5) (tm 6) g  K) : codeL Try.prog (Ok Try.prog) (nd23 [1, 1, 1]) ⟨tm, g⟩ (en23 K) := by
  try unfold J23_2 at h
  refine code2_sound ok_mono _ _ _ ?_
  refine kmp ?_ h
  generalize Ok Try.prog = C
  try unfold en23
  as_aux_lemma => kernel_rfl

noncomputable def L23_4 (x5 x6 x15 x16 : LV) (x17 : LV) (g : LHeap) (N4 : LV → LHeap → Prop) (K : LV → LHeap → Prop) : Prop :=
  vK (binL Try.prog .lss 3 false x17 x16) fun t18 =>
  ifB t18 (
  vK (ixAddrL none 1 x15 x17) fun t19 =>
  vK (loadV none t19 g) fun t20 =>
  vK (binL Try.prog .neq 5 true t20 (.int .u8 (0))) fun t22 =>
  ifB t22 (
  K (.bool false) g) (
  vK (binL Try.prog .add 3 true x17 (.int .i64 (1))) fun t23 =>
  N4 t23 g)) (
  J23_2 x5 x6 g  K)
theorem L23_4_ok (R4 : LV × LV × LV × LV → LV → LHeap → Prop) (K : LV → LHeap → Prop) (tm : Nat → LV) (g : LHeap) (h : L23_4 (tm 5) (tm 6) (tm 15) (tm 16) (tm 17) g (fun s g => R4 ((tm 5), (tm 6), (tm 15), (tm 16)) s g) K) : codeL Try.prog (Ok Try.prog) (nd23 [1, 1, 0, 1, 0, 0]) ⟨tm, g⟩ (roundK (fun tm : Nat → LV => (tm 5, tm 6, tm 15, tm 16)) (fun tm : Nat → LV => tm 17) R4 (exitL 0 (thenL (kj23_2  K) (en23 K)))) := by
  try unfold L23_4 at h
  unfold kj23_2
  generalize @J23_2 = Q23_2 at h ⊢
  refine code2_sound ok_mono _ _ _ ?_
  refine kmp ?_ h
  generalize Ok Try.prog = C
  try unfold en23
  as_aux_lemma => kernel_rfl

noncomputable def J23_3 (x5 x6 x15 x16 x17 : LV) (g : LHeap)  (K : LV → LHeap → Prop) : Prop :=
  loopP (fun s g N => L23_4 x5 x6 x15 x16 s g N  K) x17 g
abbrev kj23_3  (K : LV → LHeap → Prop) : LSt → Prop := fun st => J23_3 (st.tm 5) (st.tm 6) (st.tm 15) (st.tm 16) (st.tm 17) st.g  K
theorem J23_3_ok  (K : LV → LHeap → Prop) (tm : Nat → LV) (g : LHeap) (h : J23_3 (tm 5) (tm 6) (tm 15) (tm 16) (tm 17) g  K) : codeL Try.prog (Ok Try.prog) (nd23 [1, 1, 0, 1]) ⟨tm, g⟩ (thenL (kj23_2  K) (en23 K)) := by
  refine block_i (b := nd23 [1, 1, 0, 1, 0]) (i := 0) (by kernel_rfl) ?_
  exact loop_glue (b := nd23 [1, 1, 0, 1, 0, 0]) (by kernel_rfl) (fun tm : Nat → LV => (tm 5, tm 6, tm 15, tm 16)) (fun tm : Nat → LV => tm 17) (fun a s g N => L23_4 a.1 a.2.1 a.2.2.1 a.2.2.2 s g N  K) (fun tm g R h => L23_4_ok R  K tm g h) tm g h

noncomputable def J23_1 (x5 x6 : LV) (g : LHeap)  (K : LV → LHeap → Prop) : Prop :=
  oK (builtinL Try.prog .len [33] [x5] g) fun t16 g =>
  J23_3 x5 x6 x5 t16 (.int .i64 (0)) g  K
abbrev kj23_1  (K : LV → LHeap → Prop) : LSt → Prop := fun st => J23_1 (st.tm 5) (st.tm 6) st.g  K
theorem J23_1_ok  (K : LV → LHeap → Prop) (tm : Nat → LV) (g : LHeap) (h : J23_1 (tm 5) (tm 6) g  K) : codeL Try.prog (Ok Try.prog) (nd23 [1, 1]) ⟨tm, g⟩ (en23 K) := by
  refine seq_i (a := nd23 [1, 1, 0]) (b := nd23 [1, 1, 1]) (k' := kj23_2  K) (by kernel_rfl) (fun st h => J23_2_ok  K st.tm st.g h) ?_
  refine seq_i (a := nd23 [1, 1, 0, 0]) (b := nd23 [1, 1, 0, 1]) (k' := kj23_3  K) (by kernel_rfl) (fun st h => J23_3_ok  K st.tm st.g h) ?_
  try unfold J23_1 at h
  unfold kj23_3
  generalize @J23_3 = Q23_3 at h ⊢
  unfold kj23_2
  generalize @J23_2 = Q23_2 at h ⊢
  refine code2_sound ok_mono _ _ _ ?_
  refine kmp ?_ h
  generalize Ok Try.prog = C
  try unfold en23
  as_aux_lemma => kernel_rfl

noncomputable def J23_0 (x0 x1 : LV) (g : LHeap)  (K : LV → LHeap → Prop) : Prop :=
  Ok Try.prog 57 [x0, x1] g fun t12 g =>
  vK (extractL t12 0) fun t13 =>
  vK (extractL t12 1) fun t14 =>
  J23_1 t13 t14 g  K
abbrev kj23_0  (K : LV → LHeap → Prop) : LSt → Prop := fun st => J23_0 (st.tm 0) (st.tm 1) st.g  K
theorem J23_0_ok  (K : LV → LHeap → Prop) (tm : Nat → LV) (g : LHeap) (h : J23_0 (tm 0) (tm 1) g  K) : codeL Try.prog (Ok Try.prog) (nd23 [1]) ⟨tm, g⟩ (en23 K) := by
  refine seq_i (a := nd23 [1, 0]) (b := nd23 [1, 1]) (k' := kj23_1  K) (by kernel_rfl) (fun st h => J23_1_ok  K st.tm st.g h) ?_
  try unfold J23_0 at h
  unfold kj23_1
  generalize @J23_1 = Q23_1 at h ⊢
  refine code2_sound ok_mono _ _ _ ?_
  refine kmp ?_ h
  generalize Ok Try.prog = C
  try unfold en23
  as_aux_lemma => kernel_rfl

noncomputable def F23 (x0 x1 : LV) (g : LHeap) (K : LV → LHeap → Prop) : Prop :=
  J23_0 x0 x1 g  K
theorem ok23 {x0 x1 : LV} {g : LHeap} {K : LV → LHeap → Prop} (h : g.Wf → (∀ v ∈ ([x0, x1] : List LV), ∀ b ∈ v.objs, b < g.next) → F23 x0 x1 g K) : Ok Try.prog 23 [x0, x1] g K := by
  refine ok_fw Try.mixed Try.func23 (by kernel_rfl) (by kernel_rfl) (c := nd23 []) (by kernel_rfl) fun wf lt => ?_
  rw [← en23_eq]
  replace h := h wf lt
  generalize hs : startL _ = tm
  replace h : F23 (tm 0) (tm 1) g K := by rw [← hs]; exact h
  refine seq_i (a := nd23 [0]) (b := nd23 [1]) (k' := kj23_0  K) (by kernel_rfl) (fun st h => J23_0_ok  K st.tm st.g h) ?_
  try unfold F23 at h
  unfold kj23_0
  generalize @J23_0 = Q23_0 at h ⊢
  refine code2_sound ok_mono _ _ _ ?_
  refine kmp ?_ h
  generalize Ok Try.prog = C
  try unfold en23
  as_aux_lemma => kernel_rfl

/-! parapet/parapetlaw06.sameInts (26 slots) -/
noncomputable def en51 (K : LV → LHeap → Prop) : LEx → LSt → Prop := fun e st => match e with
  | .exit _ => False
  | _ => K (st.tm 4) st.g
theorem en51_eq (K : LV → LHeap → Prop) : en51 K = endL Try.prog Try.f51 K := by
  funext e st
  cases e <;> kernel_rfl
noncomputable def nd51 (p : List Nat) : Code := subC p (bodyC Try.prog 51)
noncomputable def J51_2 (g : LHeap)  (K : LV → LHeap → Prop) : Prop :=
  K (.bool true) g
abbrev kj51_2  (K : LV → LHeap → Prop) : LSt → Prop := fun st => J51_2  st.g  K
theorem J51_2_ok  (K : LV → LHeap → Prop) (tm : Nat → LV) (g : LHeap) (h : J51_2  g  K) : codeL Try.prog (Ok Try.prog) (nd51 [1, 1, 1]) ⟨tm, g⟩ (en51 K) := by
  try unfold J51_2 at h
  refine code2_sound ok_mono _ _ _ ?_
  refine kmp ?_ h
  generalize Ok Try.prog = C
  try unfold en51
  as_aux_lemma => kernel_rfl

noncomputable def L51_4 (x0 x1 x12 : LV) (x13 : LV) (g : LHeap) (N4 : LV → LHeap → Prop) (K : LV → LHeap → Prop) : Prop :=
  vK (binL Try.prog .lss 3 false x13 x12) fun t14 =>
  ifB t14 (
  vK (ixAddrL none 1 x0 x13) fun t18 =>
  vK (loadV none t18 g) fun t19 =>
  vK (ixAddrL none 1 x1 x13) fun t22 =>
  vK (loadV none t22 g) fun t23 =>
  vK (binL Try.prog .neq 3 false t19 t23) fun t24 =>
  ifB t24 (
  K (.bool false) g) (
  vK (binL Try.prog .add 3 true x13 (.int .i64 (1))) fun t25 =>
  N4 t25 g)) (
  J51_2  g  K)
theorem L51_4_ok (R4 : LV × LV × LV → LV → LHeap → Prop) (K : LV → LHeap → Prop) (tm : Nat → LV) (g : LHeap) (h : L51_4 (tm 0) (tm 1) (tm 12) (tm 13) g (fun s g => R4 ((tm 0), (tm 1), (tm 12)) s g) K) : codeL Try.prog (Ok Try.prog) (nd51 [1, 1, 0, 1, 0, 0]) ⟨tm, g⟩ (roundK (fun tm : Nat → LV => (tm 0, tm 1, tm 12)) (fun tm : Nat → LV => tm 13) R4 (exitL 0 (thenL (kj51_2  K) (en51 K)))) := by
  try unfold L51_4 at h
  unfold kj51_2
  generalize @J51_2 = Q51_2 at h ⊢
  refine code2_sound ok_mono _ _ _ ?_
  refine kmp ?_ h
  generalize Ok Try.prog = C
  try unfold en51
  as_aux_lemma => kernel_rfl

noncomputable def J51_3 (x0 x1 x12 x13 : LV) (g : LHeap)  (K : LV → LHeap → Prop) : Prop :=
  loopP (fun s g N => L51_4 x0 x1 x12 s g N  K) x13 g
abbrev kj51_3  (K : LV → LHeap → Prop) : LSt → Prop := fun st => J51_3 (st.tm 0) (st.tm 1) (st.tm 12) (st.tm 13) st.g  K
theorem J51_3_ok  (K : LV → LHeap → Prop) (tm : Nat → LV) (g : LHeap) (h : J51_3 (tm 0) (tm 1) (tm 12) (tm 13) g  K) : codeL Try.prog (Ok Try.prog) (nd51 [1, 1, 0, 1]) ⟨tm, g⟩ (thenL (kj51_2  K) (en51 K)) := by
  refine block_i (b := nd51 [1, 1, 0, 1, 0]) (i := 0) (by kernel_rfl) ?_
  exact loop_glue (b := nd51 [1, 1, 0, 1, 0, 0]) (by kernel_rfl) (fun tm : Nat → LV => (tm 0, tm 1, tm 12)) (fun tm : Nat → LV => tm 13) (fun a s g N => L51_4 a.1 a.2.1 a.2.2 s g N  K) (fun tm g R h => L51_4_ok R  K tm g h) tm g h

noncomputable def J51_1 (x0 x1 : LV) (g : LHeap)  (K : LV → LHeap → Prop) : Prop :=
  oK (builtinL Try.prog .len [50] [x0] g) fun t12 g =>
  J51_3 x0 x1 t12 (.int .i64 (0)) g  K
abbrev kj51_1  (K : LV → LHeap → Prop) : LSt → Prop := fun st => J51_1 (st.tm 0) (st.tm 1) st.g  K
theorem J51_1_ok  (K : LV → LHeap → Prop) (tm : Nat → LV) (g : LHeap) (h : J51_1 (tm 0) (tm 1) g  K) : codeL Try.prog (Ok Try.prog) (nd51 [1, 1]) ⟨tm, g⟩ (en51 K) := by
  refine seq_i (a := nd51 [1, 1, 0]) (b := nd51 [1, 1, 1]) (k' := kj51_2  K) (by kernel_rfl) (fun st h => J51_2_ok  K st.tm st.g h) ?_
  refine seq_i (a := nd51 [1, 1, 0, 0]) (b := nd51 [1, 1, 0, 1]) (k' := kj51_3  K) (by kernel_rfl) (fun st h => J51_3_ok  K st.tm st.g h) ?_
  try unfold J51_1 at h
  unfold kj51_3
  generalize @J51_3 = Q51_3 at h ⊢
  unfold kj51_2
  generalize @J51_2 = Q51_2 at h ⊢
  refine code2_sound ok_mono _ _ _ ?_
  refine kmp ?_ h
  generalize Ok Try.prog = C
  try unfold en51
  as_aux_lemma => kernel_rfl

noncomputable def J51_0 (x0 x1 : LV) (g : LHeap)  (K : LV → LHeap → Prop) : Prop :=
  oK (builtinL Try.prog .len [50] [x0] g) fun t7 g =>
  oK (builtinL Try.prog .len [50] [x1] g) fun t9 g =>
  vK (binL Try.prog .neq 3 false t7 t9) fun t10 =>
  ifB t10 (
  K (.bool false) g) (
  J51_1 x0 x1 g  K)
abbrev kj51_0  (K : LV → LHeap → Prop) : LSt → Prop := fun st => J51_0 (st.tm 0) (st.tm 1) st.g  K
theorem J51_0_ok  (K : LV → LHeap → Prop) (tm : Nat → LV) (g : LHeap) (h : J51_0 (tm 0) (tm 1) g  K) : codeL Try.prog (Ok Try.prog) (nd51 [1]) ⟨tm, g⟩ (en51 K) := by
  refine seq_i (a := nd51 [1, 0]) (b := nd51 [1, 1]) (k' := kj51_1  K) (by kernel_rfl) (fun st h => J51_1_ok  K st.tm st.g h) ?_
  try unfold J51_0 at h
  unfold kj51_1
  generalize @J51_1 = Q51_1 at h ⊢
  refine code2_sound ok_mono _ _ _ ?_
  refine kmp ?_ h
  generalize Ok Try.prog = C
  try unfold en51
  as_aux_lemma => kernel_rfl

noncomputable def F51 (x0 x1 : LV) (g : LHeap) (K : LV → LHeap → Prop) : Prop :=
  J51_0 x0 x1 g  K
theorem ok51 {x0 x1 : LV} {g : LHeap} {K : LV → LHeap → Prop} (h : g.Wf → (∀ v ∈ ([x0, x1] : List LV), ∀ b ∈ v.objs, b < g.next) → F51 x0 x1 g K) : Ok Try.prog 51 [x0, x1] g K := by
  refine ok_fw Try.mixed Try.func51 (by kernel_rfl) (by kernel_rfl) (c := nd51 []) (by kernel_rfl) fun wf lt => ?_
  rw [← en51_eq]
  replace h := h wf lt
  generalize hs : startL _ = tm
  replace h : F51 (tm 0) (tm 1) g K := by rw [← hs]; exact h
  refine seq_i (a := nd51 [0]) (b := nd51 [1]) (k' := kj51_0  K) (by kernel_rfl) (fun st h => J51_0_ok  K st.tm st.g h) ?_
  try unfold F51 at h
  unfold kj51_0
  generalize @J51_0 = Q51_0 at h ⊢
  refine code2_sound ok_mono _ _ _ ?_
  refine kmp ?_ h
  generalize Ok Try.prog = C
  try unfold en51
  as_aux_lemma => kernel_rfl

/-! parapet/parapetlaw06.awake (81 slots) -/
noncomputable def en19 (K : LV → LHeap → Prop) : LEx → LSt → Prop := fun e st => match e with
  | .exit _ => False
  | _ => K (st.tm 0) st.g
theorem en19_eq (K : LV → LHeap → Prop) : en19 K = endL Try.prog Try.f19 K := by
  funext e st
  cases e <;> kernel_rfl
noncomputable def nd19 (p : List Nat) : Code := subC p (bodyC Try.prog 19)
noncomputable def F19 (g : LHeap) (K : LV → LHeap → Prop) : Prop :=
  Ok Try.prog 20 [(.int .i64 (24))] g fun t10 g =>
  vK (extractL t10 0) fun t11 =>
  vK (extractL t10 1) fun t12 =>
  vK (binL Try.prog .neq 24 true t12 (.int .i64 (0))) fun t14 =>
  gd t14 false g (fun K => K t11 g) fun t16 g =>
  gd t14 false g (fun K => vK (binL Try.prog .eql 44 true t16 .nilp) fun v => K v g) fun t17 g =>
  vK (pickL t14 (.bool true) t17) fun t18 =>
  ifB t18 (
  K (.bool false) g) (
  Ok Try.prog 21 [t11, (.int .i64 (4)), (.int .i64 (20)), (.int .i64 (2))] g fun t21 g =>
  vK (extractL t21 0) fun t22 =>
  vK (extractL t21 1) fun t23 =>
  vK (binL Try.prog .neq 24 true t23 (.int .i64 (0))) fun t25 =>
  gd t25 false g (fun K => K t22 g) fun t27 g =>
  gd t25 false g (fun K => vK (binL Try.prog .eql 47 true t27 .nilp) fun v => K v g) fun t28 g =>
  vK (pickL t25 (.bool true) t28) fun t29 =>
  gd t29 false g (fun K => K t22 g) fun t31 g =>
  gd t29 false g (fun K => Ok Try.prog 33 [t31] g K) fun t32 g =>
  gd t29 false g (fun K => vK (binL Try.prog .eql 69 true t32 .nilf) fun v => K v g) fun t33 g =>
  vK (pickL t29 (.bool true) t33) fun t34 =>
  gd t34 false g (fun K => K .nilp g) fun t36 g =>
  gd t34 false g (fun K => Ok Try.prog 33 [t36] g K) fun t37 g =>
  gd t34 false g (fun K => vK (binL Try.prog .eql 69 true t37 .nilf) fun v => K v g) fun t38 g =>
  vK (pickL t34 (.bool true) t38) fun t39 =>
  ifB t39 (
  K (.bool false) g) (
  Ok Try.prog 22 [t22, (.int .i64 (0))] g fun t42 g =>
  vK (extractL t42 0) fun t43 =>
  vK (extractL t42 1) fun t44 =>
  Ok Try.prog 31 [t22, (.int .i64 (0))] g fun t46 g =>
  Ok Try.prog 25 [t22, (.int .i64 (1)), t43] g fun t50 g =>
  vK (extractL t50 0) fun t51 =>
  vK (extractL t50 1) fun t52 =>
  vK (binL Try.prog .eql 3 true t43 (.int .i64 (11))) fun t54 =>
  gd t54 true g (fun K => K t44 g) fun t56 g =>
  gd t54 true g (fun K => vK (binL Try.prog .eql 24 true t56 (.int .i64 (0))) fun v => K v g) fun t57 g =>
  vK (pickL t54 t57 (.bool false)) fun t58 =>
  gd t58 true g (fun K => K t46 g) fun t60 g =>
  gd t58 true g (fun K => oK (buildSliceL Try.prog 50 7 [(0, (.int .i64 (4))), (1, (.int .i64 (5))), (2, (.int .i64 (6))), (3, (.int .i64 (7))), (4, (.int .i64 (8))), (5, (.int .i64 (9))), (6, (.int .i64 (10)))] g) K) fun t61 g =>
  gd t58 true g (fun K => Ok Try.prog 51 [t60, t61] g K) fun t62 g =>
  vK (pickL t58 t62 (.bool false)) fun t63 =>
  gd t63 true g (fun K => K t51 g) fun t65 g =>
  vK (pickL t63 t65 (.bool false)) fun t66 =>
  gd t66 true g (fun K => K t52 g) fun t68 g =>
  gd t66 true g (fun K => vK (binL Try.prog .eql 24 true t68 (.int .i64 (0))) fun v => K v g) fun t69 g =>
  vK (pickL t66 t69 (.bool false)) fun t70 =>
  gd t70 true g (fun K => K t22 g) fun t72 g =>
  gd t70 true g (fun K => Ok Try.prog 31 [t72, (.int .i64 (1))] g K) fun t73 g =>
  gd t70 true g (fun K => oK (buildSliceL Try.prog 50 1 [(0, (.int .i64 (11)))] g) K) fun t74 g =>
  gd t70 true g (fun K => Ok Try.prog 51 [t73, t74] g K) fun t75 g =>
  vK (pickL t70 t75 (.bool false)) fun t76 =>
  gd t76 true g (fun K => K t22 g) fun t78 g =>
  gd t76 true g (fun K => Ok Try.prog 28 [t78] g K) fun t79 g =>
  vK (pickL t76 t79 (.bool false)) fun t80 =>
  K t80 g))
theorem ok19 {g : LHeap} {K : LV → LHeap → Prop} (h : g.Wf → (∀ v ∈ ([] : List LV), ∀ b ∈ v.objs, b < g.next) → F19  g K) : Ok Try.prog 19 [] g K := by
  refine ok_fw Try.mixed Try.func19 (by kernel_rfl) (by kernel_rfl) (c := nd19 []) (by kernel_rfl) fun wf lt => ?_
  rw [← en19_eq]
  replace h := h wf lt
  generalize startL _ = tm
  try unfold F19 at h
  refine code2_sound ok_mono _ _ _ ?_
  refine kmp ?_ h
  generalize Ok Try.prog = C
  try unfold en19
  as_aux_lemma => kernel_rfl

/-! parapet/parapetlaw06.FrameShares (197 slots) -/
noncomputable def en4 (K : LV → LHeap → Prop) : LEx → LSt → Prop := fun e st => match e with
  | .exit _ => False
  | _ => K (st.tm 6) st.g
theorem en4_eq (K : LV → LHeap → Prop) : en4 K = endL Try.prog Try.f4 K := by
  funext e st
  cases e <;> kernel_rfl
noncomputable def nd4 (p : List Nat) : Code := subC p (bodyC Try.prog 4)
noncomputable def J4_8 (x11 : LV) (g : LHeap)  (K : LV → LHeap → Prop) : Prop :=
  Ok Try.prog 28 [x11] g fun t196 g =>
  K t196 g
abbrev kj4_8  (K : LV → LHeap → Prop) : LSt → Prop := fun st => J4_8 (st.tm 11) st.g  K
theorem J4_8_ok  (K : LV → LHeap → Prop) (tm : Nat → LV) (g : LHeap) (h : J4_8 (tm 11) g  K) : codeL Try.prog (Ok Try.prog) (nd4 [1, 1, 1, 1, 1, 1, 1, 1, 1]) ⟨tm, g⟩ (en4 K) := by
  try unfold J4_8 at h
  refine code2_sound ok_mono _ _ _ ?_
  refine kmp ?_ h
  generalize Ok Try.prog = C
  try unfold en4
  as_aux_lemma => kernel_rfl

noncomputable def J4_13 (x7 x8 x9 x11 x12 x60 x61 x62 : LV) (g : LHeap) (N10 : LV × LV → LHeap → Prop) (K : LV → LHeap → Prop) : Prop :=
  vK (binL Try.prog .add 3 true x62 (.int .i64 (1))) fun t194 =>
  N10 (x12, t194) g
abbrev kj4_13 (R10 : LV × LV × LV × LV × LV × LV → LV × LV → LHeap → Prop) (K : LV → LHeap → Prop) : LSt → Prop := fun st => J4_13 (st.tm 7) (st.tm 8) (st.tm 9) (st.tm 11) (st.tm 12) (st.tm 60) (st.tm 61) (st.tm 62) st.g (fun s g => R10 ((st.tm 7), (st.tm 8), (st.tm 9), (st.tm 11), (st.tm 60), (st.tm 61)) s g) K
theorem J4_13_ok (R10 : LV × LV × LV × LV × LV × LV → LV × LV → LHeap → Prop) (K : LV → LHeap → Prop) (tm : Nat → LV) (g : LHeap) (h : J4_13 (tm 7) (tm 8) (tm 9) (tm 11) (tm 12) (tm 60) (tm 61) (tm 62) g (fun s g => R10 ((tm 7), (tm 8), (tm 9), (tm 11), (tm 60), (tm 61)) s g) K) : codeL Try.prog (Ok Try.prog) (nd4 [1, 1, 1, 1, 1, 1, 1, 1, 0, 1, 0, 0, 1, 1, 1]) ⟨tm, g⟩ (roundK (fun tm : Nat → LV => (tm 7, tm 8, tm 9, tm 11, tm 60, tm 61)) (fun tm : Nat → LV => (tm 12, tm 62)) R10 (exitL 0 (thenL (kj4_8  K) (en4 K)))) := by
  try unfold J4_13 at h
  unfold kj4_8
  generalize @J4_8 = Q4_8 at h ⊢
  refine code2_sound ok_mono _ _ _ ?_
  refine kmp ?_ h
  generalize Ok Try.prog = C
  try unfold en4
  as_aux_lemma => kernel_rfl

noncomputable def J4_16 (x7 x8 x9 x11 x12 x60 x61 x62 : LV) (g : LHeap) (N10 : LV × LV → LHeap → Prop) (K : LV → LHeap → Prop) : Prop :=
  Ok Try.prog 26 [x11] g fun t181 g =>
  oK (builtinL Try.prog .len [50] [x12] g) fun t183 g =>
  vK (binL Try.prog .neq 3 false t181 t183) fun t184 =>
  gd t184 false g (fun K => K x11 g) fun t186 g =>
  gd t184 false g (fun K => Ok Try.prog 27 [t186] g K) fun t187 g =>
  gd t184 false g (fun K => K x7 g) fun t188 g =>
  gd t184 false g (fun K => K x12 g) fun t189 g =>
  gd t184 false g (fun K => oK (builtinL Try.prog .len [50] [t189] g) K) fun t190 g =>
  gd t184 false g (fun K => vK (binL Try.prog .sub 3 false t188 t190) fun v => K v g) fun t191 g =>
  gd t184 false g (fun K => vK (binL Try.prog .neq 3 false t187 t191) fun v => K v g) fun t192 g =>
  vK (pickL t184 (.bool true) t192) fun t193 =>
  ifB t193 (
  K (.bool false) g) (
  J4_13 x7 x8 x9 x11 x12 x60 x61 x62 g N10 K)
abbrev kj4_16 (R10 : LV × LV × LV × LV × LV × LV → LV × LV → LHeap → Prop) (K : LV → LHeap → Prop) : LSt → Prop := fun st => J4_16 (st.tm 7) (st.tm 8) (st.tm 9) (st.tm 11) (st.tm 12) (st.tm 60) (st.tm 61) (st.tm 62) st.g (fun s g => R10 ((st.tm 7), (st.tm 8), (st.tm 9), (st.tm 11), (st.tm 60), (st.tm 61)) s g) K
theorem J4_16_ok (R10 : LV × LV × LV × LV × LV × LV → LV × LV → LHeap → Prop) (K : LV → LHeap → Prop) (tm : Nat → LV) (g : LHeap) (h : J4_16 (tm 7) (tm 8) (tm 9) (tm 11) (tm 12) (tm 60) (tm 61) (tm 62) g (fun s g => R10 ((tm 7), (tm 8), (tm 9), (tm 11), (tm 60), (tm 61)) s g) K) : codeL Try.prog (Ok Try.prog) (nd4 [1, 1, 1, 1, 1, 1, 1, 1, 0, 1, 0, 0, 1, 1, 0, 0, 1, 1, 1]) ⟨tm, g⟩ (exitL 1 (thenL (kj4_13 R10 K) (roundK (fun tm : Nat → LV => (tm 7, tm 8, tm 9, tm 11, tm 60, tm 61)) (fun tm : Nat → LV => (tm 12, tm 62)) R10 (exitL 0 (thenL (kj4_8  K) (en4 K)))))) := by
  try unfold J4_16 at h
  unfold kj4_13
  generalize @J4_13 = Q4_13 at h ⊢
  unfold kj4_8
  generalize @J4_8 = Q4_8 at h ⊢
  refine code2_sound ok_mono _ _ _ ?_
  refine kmp ?_ h
  generalize Ok Try.prog = C
  try unfold en4
  as_aux_lemma => kernel_rfl

noncomputable def J4_21 (x7 x8 x9 x11 x12 x16 x60 x61 x62 : LV) (g : LHeap) (N10 : LV × LV → LHeap → Prop) (K : LV → LHeap → Prop) : Prop :=
  vK (binL Try.prog .lss 3 true x16 (.int .i64 (2))) fun t112 =>
  gd t112 false g (fun K => K x16 g) fun t114 g =>
  gd t112 false g (fun K => K x7 g) fun t115 g =>
  gd t112 false g (fun K => vK (binL Try.prog .add 3 true t115 (.int .i64 (2))) fun v => K v g) fun t116 g =>
  gd t112 false g (fun K => vK (binL Try.prog .geq 3 false t114 t116) fun v => K v g) fun t117 g =>
  vK (pickL t112 (.bool true) t117) fun t118 =>
  gd t118 false g (fun K => K x9 g) fun t120 g =>
  gd t118 false g (fun K => K x16 g) fun t121 g =>
  gd t118 false g (fun K => Ok Try.prog 23 [t120, t121] g K) fun t122 g =>
  gd t118 false g (fun K => vK (unL .not t122) fun v => K v g) fun t123 g =>
  vK (pickL t118 (.bool true) t123) fun t124 =>
  ifB t124 (
  K (.bool false) g) (
  oK (buildSliceL Try.prog 50 1 [(0, x16)] g) fun t127 g =>
  oK (builtinL Try.prog .append [50, 50] [x12, t127] g) fun t128 g =>
  vK (binL Try.prog .mul 3 true (.int .i64 (256)) x16) fun t131 =>
  vK (binL Try.prog .add 3 true t131 (.int .i64 (8))) fun t132 =>
  Ok Try.prog 24 [x9, t132, (.int .u32 (1))] g fun t133 g =>
  J4_16 x7 x8 x9 x11 t128 x60 x61 x62 g N10 K)
abbrev kj4_21 (R10 : LV × LV × LV × LV × LV × LV → LV × LV → LHeap → Prop) (K : LV → LHeap → Prop) : LSt → Prop := fun st => J4_21 (st.tm 7) (st.tm 8) (st.tm 9) (st.tm 11) (st.tm 12) (st.tm 16) (st.tm 60) (st.tm 61) (st.tm 62) st.g (fun s g => R10 ((st.tm 7), (st.tm 8), (st.tm 9), (st.tm 11), (st.tm 60), (st.tm 61)) s g) K
theorem J4_21_ok (R10 : LV × LV × LV × LV × LV × LV → LV × LV → LHeap → Prop) (K : LV → LHeap → Prop) (tm : Nat → LV) (g : LHeap) (h : J4_21 (tm 7) (tm 8) (tm 9) (tm 11) (tm 12) (tm 16) (tm 60) (tm 61) (tm 62) g (fun s g => R10 ((tm 7), (tm 8), (tm 9), (tm 11), (tm 60), (tm 61)) s g) K) : codeL Try.prog (Ok Try.prog) (nd4 [1, 1, 1, 1, 1, 1, 1, 1, 0, 1, 0, 0, 1, 1, 0, 0, 1, 1, 0, 0, 1, 0, 1, 1, 1, 1]) ⟨tm, g⟩ (exitL 2 (thenL (kj4_16 R10 K) (exitL 1 (thenL (kj4_13 R10 K) (roundK (fun tm : Nat → LV => (tm 7, tm 8, tm 9, tm 11, tm 60, tm 61)) (fun tm : Nat → LV => (tm 12, tm 62)) R10 (exitL 0 (thenL (kj4_8  K) (en4 K)))))))) := by
  try unfold J4_21 at h
  unfold kj4_16
  generalize @J4_16 = Q4_16 at h ⊢
  unfold kj4_13
  generalize @J4_13 = Q4_13 at h ⊢
  unfold kj4_8
  generalize @J4_8 = Q4_8 at h ⊢
  refine code2_sound ok_mono _ _ _ ?_
  refine kmp ?_ h
  generalize Ok Try.prog = C
  try unfold en4
  as_aux_lemma => kernel_rfl

noncomputable def L4_23 (x7 x8 x9 x11 x12 x16 x60 x61 x62 x101 x102 : LV) (x103 : LV) (g : LHeap) (N23 : LV → LHeap → Prop) (N10 : LV × LV → LHeap → Prop) (K : LV → LHeap → Prop) : Prop :=
  vK (binL Try.prog .lss 3 false x103 x102) fun t104 =>
  ifB t104 (
  vK (ixAddrL none 1 x101 x103) fun t105 =>
  vK (loadV none t105 g) fun t106 =>
  vK (binL Try.prog .eql 3 false x16 t106) fun t109 =>
  ifB t109 (
  K (.bool false) g) (
  vK (binL Try.prog .add 3 true x103 (.int .i64 (1))) fun t110 =>
  N23 t110 g)) (
  J4_21 x7 x8 x9 x11 x12 x16 x60 x61 x62 g N10 K)
theorem L4_23_ok (R23 : LV × LV × LV × LV × LV × LV × LV × LV × LV × LV × LV → LV → LHeap → Prop) (R10 : LV × LV × LV × LV × LV × LV → LV × LV → LHeap → Prop) (K : LV → LHeap → Prop) (tm : Nat → LV) (g : LHeap) (h : L4_23 (tm 7) (tm 8) (tm 9) (tm 11) (tm 12) (tm 16) (tm 60) (tm 61) (tm 62) (tm 101) (tm 102) (tm 103) g (fun s g => R23 ((tm 7), (tm 8), (tm 9), (tm 11), (tm 12), (tm 16), (tm 60), (tm 61), (tm 62), (tm 101), (tm 102)) s g) (fun s g => R10 ((tm 7), (tm 8), (tm 9), (tm 11), (tm 60), (tm 61)) s g) K) : codeL Try.prog (Ok Try.prog) (nd4 [1, 1, 1, 1, 1, 1, 1, 1, 0, 1, 0, 0, 1, 1, 0, 0, 1, 1, 0, 0, 1, 0, 1, 1, 1, 0, 1, 0, 0]) ⟨tm, g⟩ (roundK (fun tm : Nat → LV => (tm 7, tm 8, tm 9, tm 11, tm 12, tm 16, tm 60, tm 61, tm 62, tm 101, tm 102)) (fun tm : Nat → LV => tm 103) R23 (exitL 3 (thenL (kj4_21 R10 K) (exitL 2 (thenL (kj4_16 R10 K) (exitL 1 (thenL (kj4_13 R10 K) (roundK (fun tm : Nat → LV => (tm 7, tm 8, tm 9, tm 11, tm 60, tm 61)) (fun tm : Nat → LV => (tm 12, tm 62)) R10 (exitL 0 (thenL (kj4_8  K) (en4 K))))))))))) := by
  try unfold L4_23 at h
  unfold kj4_21
  generalize @J4_21 = Q4_21 at h ⊢
  unfold kj4_16
  generalize @J4_16 = Q4_16 at h ⊢
  unfold kj4_13
  generalize @J4_13 = Q4_13 at h ⊢
  unfold kj4_8
  generalize @J4_8 = Q4_8 at h ⊢
  refine code2_sound ok_mono _ _ _ ?_
  refine kmp ?_ h
  generalize Ok Try.prog = C
  try unfold en4
  as_aux_lemma => kernel_rfl

noncomputable def J4_22 (x7 x8 x9 x11 x12 x16 x60 x61 x62 x101 x102 x103 : LV) (g : LHeap) (N10 : LV × LV → LHeap → Prop) (K : LV → LHeap → Prop) : Prop :=
  loopP (fun s g N => L4_23 x7 x8 x9 x11 x12 x16 x60 x61 x62 x101 x102 s g N N10 K) x103 g
abbrev kj4_22 (R10 : LV × LV × LV × LV × LV × LV → LV × LV → LHeap → Prop) (K : LV → LHeap → Prop) : LSt → Prop := fun st => J4_22 (st.tm 7) (st.tm 8) (st.tm 9) (st.tm 11) (st.tm 12) (st.tm 16) (st.tm 60) (st.tm 61) (st.tm 62) (st.tm 101) (st.tm 102) (st.tm 103) st.g (fun s g => R10 ((st.tm 7), (st.tm 8), (st.tm 9), (st.tm 11), (st.tm 60), (st.tm 61)) s g) K
theorem J4_22_ok (R10 : LV × LV × LV × LV × LV × LV → LV × LV → LHeap → Prop) (K : LV → LHeap → Prop) (tm : Nat → LV) (g : LHeap) (h : J4_22 (tm 7) (tm 8) (tm 9) (tm 11) (tm 12) (tm 16) (tm 60) (tm 61) (tm 62) (tm 101) (tm 102) (tm 103) g (fun s g => R10 ((tm 7), (tm 8), (tm 9), (tm 11), (tm 60), (tm 61)) s g) K) : codeL Try.prog (Ok Try.prog) (nd4 [1, 1, 1, 1, 1, 1, 1, 1, 0, 1, 0, 0, 1, 1, 0, 0, 1, 1, 0, 0, 1, 0, 1, 1, 1, 0, 1]) ⟨tm, g⟩ (thenL (kj4_21 R10 K) (exitL 2 (thenL (kj4_16 R10 K) (exitL 1 (thenL (kj4_13 R10 K) (roundK (fun tm : Nat → LV => (tm 7, tm 8, tm 9, tm 11, tm 60, tm 61)) (fun tm : Nat → LV => (tm 12, tm 62)) R10 (exitL 0 (thenL (kj4_8  K) (en4 K))))))))) := by
  refine block_i (b := nd4 [1, 1, 1, 1, 1, 1, 1, 1, 0, 1, 0, 0, 1, 1, 0, 0, 1, 1, 0, 0, 1, 0, 1, 1, 1, 0, 1, 0]) (i := 3) (by kernel_rfl) ?_
  exact loop_glue (b := nd4 [1, 1, 1, 1, 1, 1, 1, 1, 0, 1, 0, 0, 1, 1, 0, 0, 1, 1, 0, 0, 1, 0, 1, 1, 1, 0, 1, 0, 0]) (by kernel_rfl) (fun tm : Nat → LV => (tm 7, tm 8, tm 9, tm 11, tm 12, tm 16, tm 60, tm 61, tm 62, tm 101, tm 102)) (fun tm : Nat → LV => tm 103) (fun a s g N => L4_23 a.1 a.2.1 a.2.2.1 a.2.2.2.1 a.2.2.2.2.1 a.2.2.2.2.2.1 a.2.2.2.2.2.2.1 a.2.2.2.2.2.2.2.1 a.2.2.2.2.2.2.2.2.1 a.2.2.2.2.2.2.2.2.2.1 a.2.2.2.2.2.2.2.2.2.2 s g N (fun s g => R10 ((a.1), (a.2.1), (a.2.2.1), (a.2.2.2.1), (a.2.2.2.2.2.2.1), (a.2.2.2.2.2.2.2.1)) s g) K) (fun tm g R h => L4_23_ok R R10 K tm g h) tm g h

noncomputable def J4_20 (x7 x8 x9 x11 x12 x16 x60 x61 x62 : LV) (g : LHeap) (N10 : LV × LV → LHeap → Prop) (K : LV → LHeap → Prop) : Prop :=
  oK (builtinL Try.prog .len [50] [x12] g) fun t102 g =>
  J4_22 x7 x8 x9 x11 x12 x16 x60 x61 x62 x12 t102 (.int .i64 (0)) g N10 K
abbrev kj4_20 (R10 : LV × LV × LV × LV × LV × LV → LV × LV → LHeap → Prop) (K : LV → LHeap → Prop) : LSt → Prop := fun st => J4_20 (st.tm 7) (st.tm 8) (st.tm 9) (st.tm 11) (st.tm 12) (st.tm 16) (st.tm 60) (st.tm 61) (st.tm 62) st.g (fun s g => R10 ((st.tm 7), (st.tm 8), (st.tm 9), (st.tm 11), (st.tm 60), (st.tm 61)) s g) K
theorem J4_20_ok (R10 : LV × LV × LV × LV × LV × LV → LV × LV → LHeap → Prop) (K : LV → LHeap → Prop) (tm : Nat → LV) (g : LHeap) (h : J4_20 (tm 7) (tm 8) (tm 9) (tm 11) (tm 12) (tm 16) (tm 60) (tm 61) (tm 62) g (fun s g => R10 ((tm 7), (tm 8), (tm 9), (tm 11), (tm 60), (tm 61)) s g) K) : codeL Try.prog (Ok Try.prog) (nd4 [1, 1, 1, 1, 1, 1, 1, 1, 0, 1, 0, 0, 1, 1, 0, 0, 1, 1, 0, 0, 1, 0, 1, 1, 1]) ⟨tm, g⟩ (exitL 2 (thenL (kj4_16 R10 K) (exitL 1 (thenL (kj4_13 R10 K) (roundK (fun tm : Nat → LV => (tm 7, tm 8, tm 9, tm 11, tm 60, tm 61)) (fun tm : Nat → LV => (tm 12, tm 62)) R10 (exitL 0 (thenL (kj4_8  K) (en4 K)))))))) := by
  refine seq_i (a := nd4 [1, 1, 1, 1, 1, 1, 1, 1, 0, 1, 0, 0, 1, 1, 0, 0, 1, 1, 0, 0, 1, 0, 1, 1, 1, 0]) (b := nd4 [1, 1, 1, 1, 1, 1, 1, 1, 0, 1, 0, 0, 1, 1, 0, 0, 1, 1, 0, 0, 1, 0, 1, 1, 1, 1]) (k' := kj4_21 R10 K) (by kernel_rfl) (fun st h => J4_21_ok R10 K st.tm st.g h) ?_
  refine seq_i (a := nd4 [1, 1, 1, 1, 1, 1, 1, 1, 0, 1, 0, 0, 1, 1, 0, 0, 1, 1, 0, 0, 1, 0, 1, 1, 1, 0, 0]) (b := nd4 [1, 1, 1, 1, 1, 1, 1, 1, 0, 1, 0, 0, 1, 1, 0, 0, 1, 1, 0, 0, 1, 0, 1, 1, 1, 0, 1]) (k' := kj4_22 R10 K) (by kernel_rfl) (fun st h => J4_22_ok R10 K st.tm st.g h) ?_
  try unfold J4_20 at h
  unfold kj4_22
  generalize @J4_22 = Q4_22 at h ⊢
  unfold kj4_21
  generalize @J4_21 = Q4_21 at h ⊢
  unfold kj4_16
  generalize @J4_16 = Q4_16 at h ⊢
  unfold kj4_13
  generalize @J4_13 = Q4_13 at h ⊢
  unfold kj4_8
  generalize @J4_8 = Q4_8 at h ⊢
  refine code2_sound ok_mono _ _ _ ?_
  refine kmp ?_ h
  generalize Ok Try.prog = C
  try unfold en4
  as_aux_lemma => kernel_rfl

noncomputable def J4_19 (x7 x8 x9 x11 x12 x16 x17 x60 x61 x62 : LV) (g : LHeap) (N10 : LV × LV → LHeap → Prop) (K : LV → LHeap → Prop) : Prop :=
  vK (binL Try.prog .neq 24 true x17 (.int .i64 (0))) fun t100 =>
  ifB t100 (
  J4_13 x7 x8 x9 x11 x12 x60 x61 x62 g N10 K) (
  J4_20 x7 x8 x9 x11 x12 x16 x60 x61 x62 g N10 K)
abbrev kj4_19 (R10 : LV × LV × LV × LV × LV × LV → LV × LV → LHeap → Prop) (K : LV → LHeap → Prop) : LSt → Prop := fun st => J4_19 (st.tm 7) (st.tm 8) (st.tm 9) (st.tm 11) (st.tm 12) (st.tm 16) (st.tm 17) (st.tm 60) (st.tm 61) (st.tm 62) st.g (fun s g => R10 ((st.tm 7), (st.tm 8), (st.tm 9), (st.tm 11), (st.tm 60), (st.tm 61)) s g) K
theorem J4_19_ok (R10 : LV × LV × LV × LV × LV × LV → LV × LV → LHeap → Prop) (K : LV → LHeap → Prop) (tm : Nat → LV) (g : LHeap) (h : J4_19 (tm 7) (tm 8) (tm 9) (tm 11) (tm 12) (tm 16) (tm 17) (tm 60) (tm 61) (tm 62) g (fun s g => R10 ((tm 7), (tm 8), (tm 9), (tm 11), (tm 60), (tm 61)) s g) K) : codeL Try.prog (Ok Try.prog) (nd4 [1, 1, 1, 1, 1, 1, 1, 1, 0, 1, 0, 0, 1, 1, 0, 0, 1, 1, 0, 0, 1, 0, 1, 1]) ⟨tm, g⟩ (exitL 2 (thenL (kj4_16 R10 K) (exitL 1 (thenL (kj4_13 R10 K) (roundK (fun tm : Nat → LV => (tm 7, tm 8, tm 9, tm 11, tm 60, tm 61)) (fun tm : Nat → LV => (tm 12, tm 62)) R10 (exitL 0 (thenL (kj4_8  K) (en4 K)))))))) := by
  refine seq_i (a := nd4 [1, 1, 1, 1, 1, 1, 1, 1, 0, 1, 0, 0, 1, 1, 0, 0, 1, 1, 0, 0, 1, 0, 1, 1, 0]) (b := nd4 [1, 1, 1, 1, 1, 1, 1, 1, 0, 1, 0, 0, 1, 1, 0, 0, 1, 1, 0, 0, 1, 0, 1, 1, 1]) (k' := kj4_20 R10 K) (by kernel_rfl) (fun st h => J4_20_ok R10 K st.tm st.g h) ?_
  try unfold J4_19 at h
  unfold kj4_20
  generalize @J4_20 = Q4_20 at h ⊢
  unfold kj4_16
  generalize @J4_16 = Q4_16 at h ⊢
  unfold kj4_13
  generalize @J4_13 = Q4_13 at h ⊢
  unfold kj4_8
  generalize @J4_8 = Q4_8 at h ⊢
  refine code2_sound ok_mono _ _ _ ?_
  refine kmp ?_ h
  generalize Ok Try.prog = C
  try unfold en4
  as_aux_lemma => kernel_rfl

noncomputable def J4_18 (x7 x8 x9 x11 x12 x16 x17 x60 x61 x62 : LV) (g : LHeap) (N10 : LV × LV → LHeap → Prop) (K : LV → LHeap → Prop) : Prop :=
  vK (binL Try.prog .eql 24 true x17 (.int .i64 (0))) fun t85 =>
  oK (builtinL Try.prog .len [50] [x12] g) fun t87 g =>
  vK (binL Try.prog .lss 3 false t87 x7) fun t89 =>
  vK (binL Try.prog .neq 4 false t85 t89) fun t90 =>
  gd t90 false g (fun K => K x17 g) fun t92 g =>
  gd t90 false g (fun K => vK (binL Try.prog .neq 24 true t92 (.int .i64 (0))) fun v => K v g) fun t93 g =>
  gd t90 false g (fun K => K t93 g) fun t94 g =>
  gd t94 true g (fun K => K x17 g) fun t95 g =>
  gd t94 true g (fun K => vK (binL Try.prog .neq 24 true t95 (.int .i64 (2))) fun v => K v g) fun t96 g =>
  gd t90 false g (fun K => vK (pickL t94 t96 (.bool false)) fun v => K v g) fun t97 g =>
  vK (pickL t90 (.bool true) t97) fun t98 =>
  ifB t98 (
  K (.bool false) g) (
  J4_19 x7 x8 x9 x11 x12 x16 x17 x60 x61 x62 g N10 K)
abbrev kj4_18 (R10 : LV × LV × LV × LV × LV × LV → LV × LV → LHeap → Prop) (K : LV → LHeap → Prop) : LSt → Prop := fun st => J4_18 (st.tm 7) (st.tm 8) (st.tm 9) (st.tm 11) (st.tm 12) (st.tm 16) (st.tm 17) (st.tm 60) (st.tm 61) (st.tm 62) st.g (fun s g => R10 ((st.tm 7), (st.tm 8), (st.tm 9), (st.tm 11), (st.tm 60), (st.tm 61)) s g) K
theorem J4_18_ok (R10 : LV × LV × LV × LV × LV × LV → LV × LV → LHeap → Prop) (K : LV → LHeap → Prop) (tm : Nat → LV) (g : LHeap) (h : J4_18 (tm 7) (tm 8) (tm 9) (tm 11) (tm 12) (tm 16) (tm 17) (tm 60) (tm 61) (tm 62) g (fun s g => R10 ((tm 7), (tm 8), (tm 9), (tm 11), (tm 60), (tm 61)) s g) K) : codeL Try.prog (Ok Try.prog) (nd4 [1, 1, 1, 1, 1, 1, 1, 1, 0, 1, 0, 0, 1, 1, 0, 0, 1, 1, 0, 0, 1, 0, 1]) ⟨tm, g⟩ (exitL 2 (thenL (kj4_16 R10 K) (exitL 1 (thenL (kj4_13 R10 K) (roundK (fun tm : Nat → LV => (tm 7, tm 8, tm 9, tm 11, tm 60, tm 61)) (fun tm : Nat → LV => (tm 12, tm 62)) R10 (exitL 0 (thenL (kj4_8  K) (en4 K)))))))) := by
  refine seq_i (a := nd4 [1, 1, 1, 1, 1, 1, 1, 1, 0, 1, 0, 0, 1, 1, 0, 0, 1, 1, 0, 0, 1, 0, 1, 0]) (b := nd4 [1, 1, 1, 1, 1, 1, 1, 1, 0, 1, 0, 0, 1, 1, 0, 0, 1, 1, 0, 0, 1, 0, 1, 1]) (k' := kj4_19 R10 K) (by kernel_rfl) (fun st h => J4_19_ok R10 K st.tm st.g h) ?_
  try unfold J4_18 at h
  unfold kj4_19
  generalize @J4_19 = Q4_19 at h ⊢
  unfold kj4_16
  generalize @J4_16 = Q4_16 at h ⊢
  unfold kj4_13
  generalize @J4_13 = Q4_13 at h ⊢
  unfold kj4_8
  generalize @J4_8 = Q4_8 at h ⊢
  refine code2_sound ok_mono _ _ _ ?_
  refine kmp ?_ h
  generalize Ok Try.prog = C
  try unfold en4
  as_aux_lemma => kernel_rfl

noncomputable def J4_17 (x7 x8 x9 x11 x12 x14 x15 x60 x61 x62 x74 : LV) (g : LHeap) (N10 : LV × LV → LHeap → Prop) (K : LV → LHeap → Prop) : Prop :=
  ifB x74 (
  Ok Try.prog 22 [x11, x15] g fun t81 g =>
  vK (extractL t81 0) fun t82 =>
  vK (extractL t81 1) fun t83 =>
  J4_18 x7 x8 x9 x11 x12 t82 t83 x60 x61 x62 g N10 K) (
  vK (fieldAddrL 0 x14) fun t135 =>
  vK (loadV none t135 g) fun t136 =>
  vK (binL Try.prog .eql 3 true t136 (.int .i64 (1))) fun t137 =>
  gd t137 true g (fun K => K x12 g) fun t139 g =>
  gd t137 true g (fun K => oK (builtinL Try.prog .len [50] [t139] g) K) fun t140 g =>
  gd t137 true g (fun K => vK (binL Try.prog .gtr 3 true t140 (.int .i64 (0))) fun v => K v g) fun t141 g =>
  vK (pickL t137 t141 (.bool false)) fun t142 =>
  ifB t142 (
  vK (fieldAddrL 2 x14) fun t143 =>
  vK (loadV none t143 g) fun t144 =>
  oK (builtinL Try.prog .len [50] [x12] g) fun t146 g =>
  vK (binL Try.prog .rem 3 false t144 t146) fun t147 =>
  oK (builtinL Try.prog .len [50] [x12] g) fun t149 g =>
  vK (binL Try.prog .add 3 false t147 t149) fun t150 =>
  oK (builtinL Try.prog .len [50] [x12] g) fun t152 g =>
  vK (binL Try.prog .rem 3 false t150 t152) fun t153 =>
  vK (ixAddrL none 1 x12 t153) fun t159 =>
  vK (loadV none t159 g) fun t160 =>
  Ok Try.prog 25 [x11, x15, t160] g fun t161 g =>
  vK (extractL t161 0) fun t162 =>
  vK (extractL t161 1) fun t163 =>
  vK (unL .not t162) fun t165 =>
  gd t165 false g (fun K => K t163 g) fun t167 g =>
  gd t165 false g (fun K => vK (binL Try.prog .neq 24 true t167 (.int .i64 (0))) fun v => K v g) fun t168 g =>
  vK (pickL t165 (.bool true) t168) fun t169 =>
  ifB t169 (
  K (.bool false) g) (
  vK (cutT Try.prog 50 x12 none (some t153) none (limL x12 g)) fun t173 =>
  vK (binL Try.prog .add 3 true t153 (.int .i64 (1))) fun t177 =>
  vK (cutT Try.prog 50 x12 (some t177) none none (limL x12 g)) fun t178 =>
  ((oK (buildSliceL Try.prog 50 0 [] g) fun t170 g =>
  
  ((oK (builtinL Try.prog .append [50, 50] [t170, t173] g) fun t174 g =>
  
  ((oK (builtinL Try.prog .append [50, 50] [t174, t178] g) fun t179 g =>
  
  J4_16 x7 x8 x9 x11 t179 x60 x61 x62 g N10 K) ∧ True)) ∧ True)) ∧ True))) (
  J4_16 x7 x8 x9 x11 x12 x60 x61 x62 g N10 K))
abbrev kj4_17 (R10 : LV × LV × LV × LV × LV × LV → LV × LV → LHeap → Prop) (K : LV → LHeap → Prop) : LSt → Prop := fun st => J4_17 (st.tm 7) (st.tm 8) (st.tm 9) (st.tm 11) (st.tm 12) (st.tm 14) (st.tm 15) (st.tm 60) (st.tm 61) (st.tm 62) (st.tm 74) st.g (fun s g => R10 ((st.tm 7), (st.tm 8), (st.tm 9), (st.tm 11), (st.tm 60), (st.tm 61)) s g) K
theorem J4_17_ok (R10 : LV × LV × LV × LV × LV × LV → LV × LV → LHeap → Prop) (K : LV → LHeap → Prop) (tm : Nat → LV) (g : LHeap) (h : J4_17 (tm 7) (tm 8) (tm 9) (tm 11) (tm 12) (tm 14) (tm 15) (tm 60) (tm 61) (tm 62) (tm 74) g (fun s g => R10 ((tm 7), (tm 8), (tm 9), (tm 11), (tm 60), (tm 61)) s g) K) : codeL Try.prog (Ok Try.prog) (nd4 [1, 1, 1, 1, 1, 1, 1, 1, 0, 1, 0, 0, 1, 1, 0, 0, 1, 1, 0, 0, 1]) ⟨tm, g⟩ (exitL 2 (thenL (kj4_16 R10 K) (exitL 1 (thenL (kj4_13 R10 K) (roundK (fun tm : Nat → LV => (tm 7, tm 8, tm 9, tm 11, tm 60, tm 61)) (fun tm : Nat → LV => (tm 12, tm 62)) R10 (exitL 0 (thenL (kj4_8  K) (en4 K)))))))) := by
  refine cond_i (a := nd4 [1, 1, 1, 1, 1, 1, 1, 1, 0, 1, 0, 0, 1, 1, 0, 0, 1, 1, 0, 0, 1, 0]) (b := nd4 [1, 1, 1, 1, 1, 1, 1, 1, 0, 1, 0, 0, 1, 1, 0, 0, 1, 1, 0, 0, 1, 1]) (by kernel_rfl) h (fun h => ?_) (fun h => ?_)
  refine seq_i (a := nd4 [1, 1, 1, 1, 1, 1, 1, 1, 0, 1, 0, 0, 1, 1, 0, 0, 1, 1, 0, 0, 1, 0, 0]) (b := nd4 [1, 1, 1, 1, 1, 1, 1, 1, 0, 1, 0, 0, 1, 1, 0, 0, 1, 1, 0, 0, 1, 0, 1]) (k' := kj4_18 R10 K) (by kernel_rfl) (fun st h => J4_18_ok R10 K st.tm st.g h) ?_
  try unfold J4_17 at h
  unfold kj4_18
  generalize @J4_18 = Q4_18 at h ⊢
  unfold kj4_16
  generalize @J4_16 = Q4_16 at h ⊢
  unfold kj4_13
  generalize @J4_13 = Q4_13 at h ⊢
  unfold kj4_8
  generalize @J4_8 = Q4_8 at h ⊢
  refine code2_sound ok_mono _ _ _ ?_
  refine kmp ?_ h
  generalize Ok Try.prog = C
  try unfold en4
  as_aux_lemma => kernel_rfl
  try unfold J4_17 at h
  unfold kj4_16
  generalize @J4_16 = Q4_16 at h ⊢
  unfold kj4_13
  generalize @J4_13 = Q4_13 at h ⊢
  unfold kj4_8
  generalize @J4_8 = Q4_8 at h ⊢
  refine code2_sound ok_mono _ _ _ ?_
  refine kmp ?_ h
  generalize Ok Try.prog = C
  try unfold en4
  as_aux_lemma => kernel_rfl

noncomputable def J4_15 (x7 x8 x9 x11 x12 x14 x15 x60 x61 x62 : LV) (g : LHeap) (N10 : LV × LV → LHeap → Prop) (K : LV → LHeap → Prop) : Prop :=
  vK (fieldAddrL 0 x14) fun t75 =>
  vK (loadV none t75 g) fun t76 =>
  vK (binL Try.prog .eql 3 true t76 (.int .i64 (0))) fun t77 =>
  J4_17 x7 x8 x9 x11 x12 x14 x15 x60 x61 x62 t77 g N10 K
abbrev kj4_15 (R10 : LV × LV × LV × LV × LV × LV → LV × LV → LHeap → Prop) (K : LV → LHeap → Prop) : LSt → Prop := fun st => J4_15 (st.tm 7) (st.tm 8) (st.tm 9) (st.tm 11) (st.tm 12) (st.tm 14) (st.tm 15) (st.tm 60) (st.tm 61) (st.tm 62) st.g (fun s g => R10 ((st.tm 7), (st.tm 8), (st.tm 9), (st.tm 11), (st.tm 60), (st.tm 61)) s g) K
theorem J4_15_ok (R10 : LV × LV × LV × LV × LV × LV → LV × LV → LHeap → Prop) (K : LV → LHeap → Prop) (tm : Nat → LV) (g : LHeap) (h : J4_15 (tm 7) (tm 8) (tm 9) (tm 11) (tm 12) (tm 14) (tm 15) (tm 60) (tm 61) (tm 62) g (fun s g => R10 ((tm 7), (tm 8), (tm 9), (tm 11), (tm 60), (tm 61)) s g) K) : codeL Try.prog (Ok Try.prog) (nd4 [1, 1, 1, 1, 1, 1, 1, 1, 0, 1, 0, 0, 1, 1, 0, 0, 1, 1]) ⟨tm, g⟩ (exitL 1 (thenL (kj4_13 R10 K) (roundK (fun tm : Nat → LV => (tm 7, tm 8, tm 9, tm 11, tm 60, tm 61)) (fun tm : Nat → LV => (tm 12, tm 62)) R10 (exitL 0 (thenL (kj4_8  K) (en4 K)))))) := by
  refine seq_i (a := nd4 [1, 1, 1, 1, 1, 1, 1, 1, 0, 1, 0, 0, 1, 1, 0, 0, 1, 1, 0]) (b := nd4 [1, 1, 1, 1, 1, 1, 1, 1, 0, 1, 0, 0, 1, 1, 0, 0, 1, 1, 1]) (k' := kj4_16 R10 K) (by kernel_rfl) (fun st h => J4_16_ok R10 K st.tm st.g h) ?_
  refine block_i (b := nd4 [1, 1, 1, 1, 1, 1, 1, 1, 0, 1, 0, 0, 1, 1, 0, 0, 1, 1, 0, 0]) (i := 2) (by kernel_rfl) ?_
  refine seq_i (a := nd4 [1, 1, 1, 1, 1, 1, 1, 1, 0, 1, 0, 0, 1, 1, 0, 0, 1, 1, 0, 0, 0]) (b := nd4 [1, 1, 1, 1, 1, 1, 1, 1, 0, 1, 0, 0, 1, 1, 0, 0, 1, 1, 0, 0, 1]) (k' := kj4_17 R10 K) (by kernel_rfl) (fun st h => J4_17_ok R10 K st.tm st.g h) ?_
  try unfold J4_15 at h
  unfold kj4_17
  generalize @J4_17 = Q4_17 at h ⊢
  unfold kj4_16
  generalize @J4_16 = Q4_16 at h ⊢
  unfold kj4_13
  generalize @J4_13 = Q4_13 at h ⊢
  unfold kj4_8
  generalize @J4_8 = Q4_8 at h ⊢
  refine code2_sound ok_mono _ _ _ ?_
  refine kmp ?_ h
  generalize Ok Try.prog = C
  try unfold en4
  as_aux_lemma => kernel_rfl

noncomputable def J4_14 (x7 x8 x9 x11 x12 x14 x60 x61 x62 : LV) (g : LHeap) (N10 : LV × LV → LHeap → Prop) (K : LV → LHeap → Prop) : Prop :=
  vK (fieldAddrL 1 x14) fun t66 =>
  vK (loadV none t66 g) fun t67 =>
  vK (binL Try.prog .rem 3 false t67 x8) fun t69 =>
  vK (binL Try.prog .add 3 false t69 x8) fun t71 =>
  vK (binL Try.prog .rem 3 false t71 x8) fun t73 =>
  J4_15 x7 x8 x9 x11 x12 x14 t73 x60 x61 x62 g N10 K
abbrev kj4_14 (R10 : LV × LV × LV × LV × LV × LV → LV × LV → LHeap → Prop) (K : LV → LHeap → Prop) : LSt → Prop := fun st => J4_14 (st.tm 7) (st.tm 8) (st.tm 9) (st.tm 11) (st.tm 12) (st.tm 14) (st.tm 60) (st.tm 61) (st.tm 62) st.g (fun s g => R10 ((st.tm 7), (st.tm 8), (st.tm 9), (st.tm 11), (st.tm 60), (st.tm 61)) s g) K
theorem J4_14_ok (R10 : LV × LV × LV × LV × LV × LV → LV × LV → LHeap → Prop) (K : LV → LHeap → Prop) (tm : Nat → LV) (g : LHeap) (h : J4_14 (tm 7) (tm 8) (tm 9) (tm 11) (tm 12) (tm 14) (tm 60) (tm 61) (tm 62) g (fun s g => R10 ((tm 7), (tm 8), (tm 9), (tm 11), (tm 60), (tm 61)) s g) K) : codeL Try.prog (Ok Try.prog) (nd4 [1, 1, 1, 1, 1, 1, 1, 1, 0, 1, 0, 0, 1, 1, 0, 0, 1]) ⟨tm, g⟩ (exitL 1 (thenL (kj4_13 R10 K) (roundK (fun tm : Nat → LV => (tm 7, tm 8, tm 9, tm 11, tm 60, tm 61)) (fun tm : Nat → LV => (tm 12, tm 62)) R10 (exitL 0 (thenL (kj4_8  K) (en4 K)))))) := by
  refine seq_i (a := nd4 [1, 1, 1, 1, 1, 1, 1, 1, 0, 1, 0, 0, 1, 1, 0, 0, 1, 0]) (b := nd4 [1, 1, 1, 1, 1, 1, 1, 1, 0, 1, 0, 0, 1, 1, 0, 0, 1, 1]) (k' := kj4_15 R10 K) (by kernel_rfl) (fun st h => J4_15_ok R10 K st.tm st.g h) ?_
  try unfold J4_14 at h
  unfold kj4_15
  generalize @J4_15 = Q4_15 at h ⊢
  unfold kj4_13
  generalize @J4_13 = Q4_13 at h ⊢
  unfold kj4_8
  generalize @J4_8 = Q4_8 at h ⊢
  refine code2_sound ok_mono _ _ _ ?_
  refine kmp ?_ h
  generalize Ok Try.prog = C
  try unfold en4
  as_aux_lemma => kernel_rfl

noncomputable def J4_12 (x7 x8 x9 x11 x12 x60 x61 x62 : LV) (g : LHeap) (N10 : LV × LV → LHeap → Prop) (K : LV → LHeap → Prop) : Prop :=
  vK (ixAddrL none 3 x60 x62) fun t64 =>
  vK (loadV (some 3) t64 g) fun t65 =>
  oK (newL (.agg [(.int .i64 (0)), (.int .i64 (0)), (.int .i64 (0))]) g) fun t14 g =>
  gK (storeV 3 t14 t65 g) fun g =>
  J4_14 x7 x8 x9 x11 x12 t14 x60 x61 x62 g N10 K
abbrev kj4_12 (R10 : LV × LV × LV × LV × LV × LV → LV × LV → LHeap → Prop) (K : LV → LHeap → Prop) : LSt → Prop := fun st => J4_12 (st.tm 7) (st.tm 8) (st.tm 9) (st.tm 11) (st.tm 12) (st.tm 60) (st.tm 61) (st.tm 62) st.g (fun s g => R10 ((st.tm 7), (st.tm 8), (st.tm 9), (st.tm 11), (st.tm 60), (st.tm 61)) s g) K
theorem J4_12_ok (R10 : LV × LV × LV × LV × LV × LV → LV × LV → LHeap → Prop) (K : LV → LHeap → Prop) (tm : Nat → LV) (g : LHeap) (h : J4_12 (tm 7) (tm 8) (tm 9) (tm 11) (tm 12) (tm 60) (tm 61) (tm 62) g (fun s g => R10 ((tm 7), (tm 8), (tm 9), (tm 11), (tm 60), (tm 61)) s g) K) : codeL Try.prog (Ok Try.prog) (nd4 [1, 1, 1, 1, 1, 1, 1, 1, 0, 1, 0, 0, 1, 1]) ⟨tm, g⟩ (roundK (fun tm : Nat → LV => (tm 7, tm 8, tm 9, tm 11, tm 60, tm 61)) (fun tm : Nat → LV => (tm 12, tm 62)) R10 (exitL 0 (thenL (kj4_8  K) (en4 K)))) := by
  refine seq_i (a := nd4 [1, 1, 1, 1, 1, 1, 1, 1, 0, 1, 0, 0, 1, 1, 0]) (b := nd4 [1, 1, 1, 1, 1, 1, 1, 1, 0, 1, 0, 0, 1, 1, 1]) (k' := kj4_13 R10 K) (by kernel_rfl) (fun st h => J4_13_ok R10 K st.tm st.g h) ?_
  refine block_i (b := nd4 [1, 1, 1, 1, 1, 1, 1, 1, 0, 1, 0, 0, 1, 1, 0, 0]) (i := 1) (by kernel_rfl) ?_
  refine seq_i (a := nd4 [1, 1, 1, 1, 1, 1, 1, 1, 0, 1, 0, 0, 1, 1, 0, 0, 0]) (b := nd4 [1, 1, 1, 1, 1, 1, 1, 1, 0, 1, 0, 0, 1, 1, 0, 0, 1]) (k' := kj4_14 R10 K) (by kernel_rfl) (fun st h => J4_14_ok R10 K st.tm st.g h) ?_
  try unfold J4_12 at h
  unfold kj4_14
  generalize @J4_14 = Q4_14 at h ⊢
  unfold kj4_13
  generalize @J4_13 = Q4_13 at h ⊢
  unfold kj4_8
  generalize @J4_8 = Q4_8 at h ⊢
  refine code2_sound ok_mono _ _ _ ?_
  refine kmp ?_ h
  generalize Ok Try.prog = C
  try unfold en4
  as_aux_lemma => kernel_rfl

noncomputable def J4_11 (x7 x8 x9 x11 x12 x60 x61 x62 x63 : LV) (g : LHeap) (N10 : LV × LV → LHeap → Prop) (K : LV → LHeap → Prop) : Prop :=
  ifB x63 (
  J4_12 x7 x8 x9 x11 x12 x60 x61 x62 g N10 K) (
  J4_8 x11 g  K)
abbrev kj4_11 (R10 : LV × LV × LV × LV × LV × LV → LV × LV → LHeap → Prop) (K : LV → LHeap → Prop) : LSt → Prop := fun st => J4_11 (st.tm 7) (st.tm 8) (st.tm 9) (st.tm 11) (st.tm 12) (st.tm 60) (st.tm 61) (st.tm 62) (st.tm 63) st.g (fun s g => R10 ((st.tm 7), (st.tm 8), (st.tm 9), (st.tm 11), (st.tm 60), (st.tm 61)) s g) K
theorem J4_11_ok (R10 : LV × LV × LV × LV × LV × LV → LV × LV → LHeap → Prop) (K : LV → LHeap → Prop) (tm : Nat → LV) (g : LHeap) (h : J4_11 (tm 7) (tm 8) (tm 9) (tm 11) (tm 12) (tm 60) (tm 61) (tm 62) (tm 63) g (fun s g => R10 ((tm 7), (tm 8), (tm 9), (tm 11), (tm 60), (tm 61)) s g) K) : codeL Try.prog (Ok Try.prog) (nd4 [1, 1, 1, 1, 1, 1, 1, 1, 0, 1, 0, 0, 1]) ⟨tm, g⟩ (roundK (fun tm : Nat → LV => (tm 7, tm 8, tm 9, tm 11, tm 60, tm 61)) (fun tm : Nat → LV => (tm 12, tm 62)) R10 (exitL 0 (thenL (kj4_8  K) (en4 K)))) := by
  refine seq_i (a := nd4 [1, 1, 1, 1, 1, 1, 1, 1, 0, 1, 0, 0, 1, 0]) (b := nd4 [1, 1, 1, 1, 1, 1, 1, 1, 0, 1, 0, 0, 1, 1]) (k' := kj4_12 R10 K) (by kernel_rfl) (fun st h => J4_12_ok R10 K st.tm st.g h) ?_
  try unfold J4_11 at h
  unfold kj4_12
  generalize @J4_12 = Q4_12 at h ⊢
  unfold kj4_8
  generalize @J4_8 = Q4_8 at h ⊢
  refine code2_sound ok_mono _ _ _ ?_
  refine kmp ?_ h
  generalize Ok Try.prog = C
  try unfold en4
  as_aux_lemma => kernel_rfl

noncomputable def L4_10 (x7 x8 x9 x11 x60 x61 : LV) (x12 x62 : LV) (g : LHeap) (N10 : LV × LV → LHeap → Prop) (K : LV → LHeap → Prop) : Prop :=
  vK (binL Try.prog .lss 3 false x62 x61) fun t63 =>
  J4_11 x7 x8 x9 x11 x12 x60 x61 x62 t63 g N10 K
theorem L4_10_ok (R10 : LV × LV × LV × LV × LV × LV → LV × LV → LHeap → Prop) (K : LV → LHeap → Prop) (tm : Nat → LV) (g : LHeap) (h : L4_10 (tm 7) (tm 8) (tm 9) (tm 11) (tm 60) (tm 61) (tm 12) (tm 62) g (fun s g => R10 ((tm 7), (tm 8), (tm 9), (tm 11), (tm 60), (tm 61)) s g) K) : codeL Try.prog (Ok Try.prog) (nd4 [1, 1, 1, 1, 1, 1, 1, 1, 0, 1, 0, 0]) ⟨tm, g⟩ (roundK (fun tm : Nat → LV => (tm 7, tm 8, tm 9, tm 11, tm 60, tm 61)) (fun tm : Nat → LV => (tm 12, tm 62)) R10 (exitL 0 (thenL (kj4_8  K) (en4 K)))) := by
  refine seq_i (a := nd4 [1, 1, 1, 1, 1, 1, 1, 1, 0, 1, 0, 0, 0]) (b := nd4 [1, 1, 1, 1, 1, 1, 1, 1, 0, 1, 0, 0, 1]) (k' := kj4_11 R10 K) (by kernel_rfl) (fun st h => J4_11_ok R10 K st.tm st.g h) ?_
  try unfold L4_10 at h
  unfold kj4_11
  generalize @J4_11 = Q4_11 at h ⊢
  unfold kj4_8
  generalize @J4_8 = Q4_8 at h ⊢
  refine code2_sound ok_mono _ _ _ ?_
  refine kmp ?_ h
  generalize Ok Try.prog = C
  try unfold en4
  as_aux_lemma => kernel_rfl

noncomputable def J4_9 (x7 x8 x9 x11 x12 x60 x61 x62 : LV) (g : LHeap)  (K : LV → LHeap → Prop) : Prop :=
  loopP (fun s g N => L4_10 x7 x8 x9 x11 x60 x61 s.1 s.2 g N  K) (x12, x62) g
abbrev kj4_9  (K : LV → LHeap → Prop) : LSt → Prop := fun st => J4_9 (st.tm 7) (st.tm 8) (st.tm 9) (st.tm 11) (st.tm 12) (st.tm 60) (st.tm 61) (st.tm 62) st.g  K
theorem J4_9_ok  (K : LV → LHeap → Prop) (tm : Nat → LV) (g : LHeap) (h : J4_9 (tm 7) (tm 8) (tm 9) (tm 11) (tm 12) (tm 60) (tm 61) (tm 62) g  K) : codeL Try.prog (Ok Try.prog) (nd4 [1, 1, 1, 1, 1, 1, 1, 1, 0, 1]) ⟨tm, g⟩ (thenL (kj4_8  K) (en4 K)) := by
  refine block_i (b := nd4 [1, 1, 1, 1, 1, 1, 1, 1, 0, 1, 0]) (i := 0) (by kernel_rfl) ?_
  exact loop_glue (b := nd4 [1, 1, 1, 1, 1, 1, 1, 1, 0, 1, 0, 0]) (by kernel_rfl) (fun tm : Nat → LV => (tm 7, tm 8, tm 9, tm 11, tm 60, tm 61)) (fun tm : Nat → LV => (tm 12, tm 62)) (fun a s g N => L4_10 a.1 a.2.1 a.2.2.1 a.2.2.2.1 a.2.2.2.2.1 a.2.2.2.2.2 s.1 s.2 g N  K) (fun tm g R h => L4_10_ok R  K tm g h) tm g h

noncomputable def J4_7 (x2 x7 x8 x9 x11 x12 : LV) (g : LHeap)  (K : LV → LHeap → Prop) : Prop :=
  oK (builtinL Try.prog .len [43] [x2] g) fun t61 g =>
  J4_9 x7 x8 x9 x11 x12 x2 t61 (.int .i64 (0)) g  K
abbrev kj4_7  (K : LV → LHeap → Prop) : LSt → Prop := fun st => J4_7 (st.tm 2) (st.tm 7) (st.tm 8) (st.tm 9) (st.tm 11) (st.tm 12) st.g  K
theorem J4_7_ok  (K : LV → LHeap → Prop) (tm : Nat → LV) (g : LHeap) (h : J4_7 (tm 2) (tm 7) (tm 8) (tm 9) (tm 11) (tm 12) g  K) : codeL Try.prog (Ok Try.prog) (nd4 [1, 1, 1, 1, 1, 1, 1, 1]) ⟨tm, g⟩ (en4 K) := by
  refine seq_i (a := nd4 [1, 1, 1, 1, 1, 1, 1, 1, 0]) (b := nd4 [1, 1, 1, 1, 1, 1, 1, 1, 1]) (k' := kj4_8  K) (by kernel_rfl) (fun st h => J4_8_ok  K st.tm st.g h) ?_
  refine seq_i (a := nd4 [1, 1, 1, 1, 1, 1, 1, 1, 0, 0]) (b := nd4 [1, 1, 1, 1, 1, 1, 1, 1, 0, 1]) (k' := kj4_9  K) (by kernel_rfl) (fun st h => J4_9_ok  K st.tm st.g h) ?_
  try unfold J4_7 at h
  unfold kj4_9
  generalize @J4_9 = Q4_9 at h ⊢
  unfold kj4_8
  generalize @J4_8 = Q4_8 at h ⊢
  refine code2_sound ok_mono _ _ _ ?_
  refine kmp ?_ h
  generalize Ok Try.prog = C
  try unfold en4
  as_aux_lemma => kernel_rfl

noncomputable def J4_6 (x2 x7 x8 x9 x11 : LV) (g : LHeap)  (K : LV → LHeap → Prop) : Prop :=
  J4_7 x2 x7 x8 x9 x11 .nils g  K
abbrev kj4_6  (K : LV → LHeap → Prop) : LSt → Prop := fun st => J4_6 (st.tm 2) (st.tm 7) (st.tm 8) (st.tm 9) (st.tm 11) st.g  K
theorem J4_6_ok  (K : LV → LHeap → Prop) (tm : Nat → LV) (g : LHeap) (h : J4_6 (tm 2) (tm 7) (tm 8) (tm 9) (tm 11) g  K) : codeL Try.prog (Ok Try.prog) (nd4 [1, 1, 1, 1, 1, 1, 1]) ⟨tm, g⟩ (en4 K) := by
  refine seq_i (a := nd4 [1, 1, 1, 1, 1, 1, 1, 0]) (b := nd4 [1, 1, 1, 1, 1, 1, 1, 1]) (k' := kj4_7  K) (by kernel_rfl) (fun st h => J4_7_ok  K st.tm st.g h) ?_
  try unfold J4_6 at h
  unfold kj4_7
  generalize @J4_7 = Q4_7 at h ⊢
  refine code2_sound ok_mono _ _ _ ?_
  refine kmp ?_ h
  generalize Ok Try.prog = C
  try unfold en4
  as_aux_lemma => kernel_rfl

noncomputable def J4_5 (x2 x7 x8 x9 x10 x11 : LV) (g : LHeap)  (K : LV → LHeap → Prop) : Prop :=
  vK (binL Try.prog .neq 24 true x10 (.int .i64 (0))) fun t55 =>
  gd t55 false g (fun K => K x11 g) fun t57 g =>
  gd t55 false g (fun K => vK (binL Try.prog .eql 47 true t57 .nilp) fun v => K v g) fun t58 g =>
  vK (pickL t55 (.bool true) t58) fun t59 =>
  ifB t59 (
  K (.bool false) g) (
  J4_6 x2 x7 x8 x9 x11 g  K)
abbrev kj4_5  (K : LV → LHeap → Prop) : LSt → Prop := fun st => J4_5 (st.tm 2) (st.tm 7) (st.tm 8) (st.tm 9) (st.tm 10) (st.tm 11) st.g  K
theorem J4_5_ok  (K : LV → LHeap → Prop) (tm : Nat → LV) (g : LHeap) (h : J4_5 (tm 2) (tm 7) (tm 8) (tm 9) (tm 10) (tm 11) g  K) : codeL Try.prog (Ok Try.prog) (nd4 [1, 1, 1, 1, 1, 1]) ⟨tm, g⟩ (en4 K) := by
  refine seq_i (a := nd4 [1, 1, 1, 1, 1, 1, 0]) (b := nd4 [1, 1, 1, 1, 1, 1, 1]) (k' := kj4_6  K) (by kernel_rfl) (fun st h => J4_6_ok  K st.tm st.g h) ?_
  try unfold J4_5 at h
  unfold kj4_6
  generalize @J4_6 = Q4_6 at h ⊢
  refine code2_sound ok_mono _ _ _ ?_
  refine kmp ?_ h
  generalize Ok Try.prog = C
  try unfold en4
  as_aux_lemma => kernel_rfl

noncomputable def J4_4 (x2 x7 x8 x9 : LV) (g : LHeap)  (K : LV → LHeap → Prop) : Prop :=
  Ok Try.prog 21 [x9, (.int .i64 (2)), x7, x8] g fun t51 g =>
  vK (extractL t51 0) fun t52 =>
  vK (extractL t51 1) fun t53 =>
  J4_5 x2 x7 x8 x9 t53 t52 g  K
abbrev kj4_4  (K : LV → LHeap → Prop) : LSt → Prop := fun st => J4_4 (st.tm 2) (st.tm 7) (st.tm 8) (st.tm 9) st.g  K
theorem J4_4_ok  (K : LV → LHeap → Prop) (tm : Nat → LV) (g : LHeap) (h : J4_4 (tm 2) (tm 7) (tm 8) (tm 9) g  K) : codeL Try.prog (Ok Try.prog) (nd4 [1, 1, 1, 1, 1]) ⟨tm, g⟩ (en4 K) := by
  refine seq_i (a := nd4 [1, 1, 1, 1, 1, 0]) (b := nd4 [1, 1, 1, 1, 1, 1]) (k' := kj4_5  K) (by kernel_rfl) (fun st h => J4_5_ok  K st.tm st.g h) ?_
  try unfold J4_4 at h
  unfold kj4_5
  generalize @J4_5 = Q4_5 at h ⊢
  refine code2_sound ok_mono _ _ _ ?_
  refine kmp ?_ h
  generalize Ok Try.prog = C
  try unfold en4
  as_aux_lemma => kernel_rfl

noncomputable def J4_3 (x2 x7 x8 x9 x10 : LV) (g : LHeap)  (K : LV → LHeap → Prop) : Prop :=
  vK (binL Try.prog .neq 24 true x10 (.int .i64 (0))) fun t42 =>
  gd t42 false g (fun K => K x9 g) fun t44 g =>
  gd t42 false g (fun K => vK (binL Try.prog .eql 44 true t44 .nilp) fun v => K v g) fun t45 g =>
  vK (pickL t42 (.bool true) t45) fun t46 =>
  ifB t46 (
  K (.bool false) g) (
  J4_4 x2 x7 x8 x9 g  K)
abbrev kj4_3  (K : LV → LHeap → Prop) : LSt → Prop := fun st => J4_3 (st.tm 2) (st.tm 7) (st.tm 8) (st.tm 9) (st.tm 10) st.g  K
theorem J4_3_ok  (K : LV → LHeap → Prop) (tm : Nat → LV) (g : LHeap) (h : J4_3 (tm 2) (tm 7) (tm 8) (tm 9) (tm 10) g  K) : codeL Try.prog (Ok Try.prog) (nd4 [1, 1, 1, 1]) ⟨tm, g⟩ (en4 K) := by
  refine seq_i (a := nd4 [1, 1, 1, 1, 0]) (b := nd4 [1, 1, 1, 1, 1]) (k' := kj4_4  K) (by kernel_rfl) (fun st h => J4_4_ok  K st.tm st.g h) ?_
  try unfold J4_3 at h
  unfold kj4_4
  generalize @J4_4 = Q4_4 at h ⊢
  refine code2_sound ok_mono _ _ _ ?_
  refine kmp ?_ h
  generalize Ok Try.prog = C
  try unfold en4
  as_aux_lemma => kernel_rfl

noncomputable def J4_2 (x2 x7 x8 : LV) (g : LHeap)  (K : LV → LHeap → Prop) : Prop :=
  vK (binL Try.prog .add 3 true x7 (.int .i64 (2))) fun t37 =>
  Ok Try.prog 20 [t37] g fun t38 g =>
  vK (extractL t38 0) fun t39 =>
  vK (extractL t38 1) fun t40 =>
  J4_3 x2 x7 x8 t39 t40 g  K
abbrev kj4_2  (K : LV → LHeap → Prop) : LSt → Prop := fun st => J4_2 (st.tm 2) (st.tm 7) (st.tm 8) st.g  K
theorem J4_2_ok  (K : LV → LHeap → Prop) (tm : Nat → LV) (g : LHeap) (h : J4_2 (tm 2) (tm 7) (tm 8) g  K) : codeL Try.prog (Ok Try.prog) (nd4 [1, 1, 1]) ⟨tm, g⟩ (en4 K) := by
  refine seq_i (a := nd4 [1, 1, 1, 0]) (b := nd4 [1, 1, 1, 1]) (k' := kj4_3  K) (by kernel_rfl) (fun st h => J4_3_ok  K st.tm st.g h) ?_
  try unfold J4_2 at h
  unfold kj4_3
  generalize @J4_3 = Q4_3 at h ⊢
  refine code2_sound ok_mono _ _ _ ?_
  refine kmp ?_ h
  generalize Ok Try.prog = C
  try unfold en4
  as_aux_lemma => kernel_rfl

noncomputable def J4_1 (x0 x1 x2 : LV) (g : LHeap)  (K : LV → LHeap → Prop) : Prop :=
  vK (binL Try.prog .rem 3 true x0 (.int .i64 (64))) fun t26 =>
  vK (binL Try.prog .add 3 true t26 (.int .i64 (64))) fun t27 =>
  vK (binL Try.prog .rem 3 true t27 (.int .i64 (64))) fun t28 =>
  vK (binL Try.prog .add 3 true t28 (.int .i64 (1))) fun t29 =>
  vK (binL Try.prog .rem 3 true x1 (.int .i64 (8))) fun t31 =>
  vK (binL Try.prog .add 3 true t31 (.int .i64 (8))) fun t32 =>
  vK (binL Try.prog .rem 3 true t32 (.int .i64 (8))) fun t33 =>
  vK (binL Try.prog .add 3 true t33 (.int .i64 (1))) fun t34 =>
  J4_2 x2 t29 t34 g  K
abbrev kj4_1  (K : LV → LHeap → Prop) : LSt → Prop := fun st => J4_1 (st.tm 0) (st.tm 1) (st.tm 2) st.g  K
theorem J4_1_ok  (K : LV → LHeap → Prop) (tm : Nat → LV) (g : LHeap) (h : J4_1 (tm 0) (tm 1) (tm 2) g  K) : codeL Try.prog (Ok Try.prog) (nd4 [1, 1]) ⟨tm, g⟩ (en4 K) := by
  refine seq_i (a := nd4 [1, 1, 0]) (b := nd4 [1, 1, 1]) (k' := kj4_2  K) (by kernel_rfl) (fun st h => J4_2_ok  K st.tm st.g h) ?_
  try unfold J4_1 at h
  unfold kj4_2
  generalize @J4_2 = Q4_2 at h ⊢
  refine code2_sound ok_mono _ _ _ ?_
  refine kmp ?_ h
  generalize Ok Try.prog = C
  try unfold en4
  as_aux_lemma => kernel_rfl

noncomputable def J4_0 (x0 x1 x2 : LV) (g : LHeap)  (K : LV → LHeap → Prop) : Prop :=
  Ok Try.prog 19 [] g fun t23 g =>
  vK (unL .not t23) fun t24 =>
  ifB t24 (
  K (.bool false) g) (
  J4_1 x0 x1 x2 g  K)
abbrev kj4_0  (K : LV → LHeap → Prop) : LSt → Prop := fun st => J4_0 (st.tm 0) (st.tm 1) (st.tm 2) st.g  K
theorem J4_0_ok  (K : LV → LHeap → Prop) (tm : Nat → LV) (g : LHeap) (h : J4_0 (tm 0) (tm 1) (tm 2) g  K) : codeL Try.prog (Ok Try.prog) (nd4 [1]) ⟨tm, g⟩ (en4 K) := by
  refine seq_i (a := nd4 [1, 0]) (b := nd4 [1, 1]) (k' := kj4_1  K) (by kernel_rfl) (fun st h => J4_1_ok  K st.tm st.g h) ?_
  try unfold J4_0 at h
  unfold kj4_1
  generalize @J4_1 = Q4_1 at h ⊢
  refine code2_sound ok_mono _ _ _ ?_
  refine kmp ?_ h
  generalize Ok Try.prog = C
  try unfold en4
  as_aux_lemma => kernel_rfl

noncomputable def F4 (x0 x1 x2 : LV) (g : LHeap) (K : LV → LHeap → Prop) : Prop :=
  J4_0 x0 x1 x2 g  K
theorem ok4 {x0 x1 x2 : LV} {g : LHeap} {K : LV → LHeap → Prop} (h : g.Wf → (∀ v ∈ ([x0, x1, x2] : List LV), ∀ b ∈ v.objs, b < g.next) → F4 x0 x1 x2 g K) : Ok Try.prog 4 [x0, x1, x2] g K := by
  refine ok_fw Try.mixed Try.func4 (by kernel_rfl) (by kernel_rfl) (c := nd4 []) (by kernel_rfl) fun wf lt => ?_
  rw [← en4_eq]
  replace h := h wf lt
  generalize hs : startL _ = tm
  replace h : F4 (tm 0) (tm 1) (tm 2) g K := by rw [← hs]; exact h
  refine seq_i (a := nd4 [0]) (b := nd4 [1]) (k' := kj4_0  K) (by kernel_rfl) (fun st h => J4_0_ok  K st.tm st.g h) ?_
  try unfold F4 at h
  unfold kj4_0
  generalize @J4_0 = Q4_0 at h ⊢
  refine code2_sound ok_mono _ _ _ ?_
  refine kmp ?_ h
  generalize Ok Try.prog = C
  try unfold en4
  as_aux_lemma => kernel_rfl

end Go.Proofs.Ytoajcekgoalhjaa
