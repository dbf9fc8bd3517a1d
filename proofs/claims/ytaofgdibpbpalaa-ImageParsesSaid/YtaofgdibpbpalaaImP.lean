/-
  Functions of the program, as texts of named values.
-/
import Derived.Test.YtaofgdibpbpalaaIm0
set_option linter.all false
namespace Go.Proofs.Ytaofgdibpbpalaa
open Go.ChangeShapes Go.WideShapes Go.ChangeAt Go.RowKit Go.Lm
set_option maxRecDepth 1000000
set_option linter.unusedVariables false
/-! parapet/image.reach (41 slots) -/
noncomputable def en68 (K : LV → LHeap → Prop) : LEx → LSt → Prop := fun e st => match e with
  | .exit _ => False
  | _ => K (st.tm 6) st.g
theorem en68_eq (K : LV → LHeap → Prop) : en68 K = endL Try.prog Try.f68 K := by
  funext e st
  cases e <;> kernel_rfl
noncomputable def nd68 (p : List Nat) : Code := subC p (bodyC Try.prog 68)
noncomputable def J68_2 (g : LHeap)  (K : LV → LHeap → Prop) : Prop :=
  K (.bool true) g
abbrev kj68_2  (K : LV → LHeap → Prop) : LSt → Prop := fun st => J68_2  st.g  K
theorem J68_2_ok  (K : LV → LHeap → Prop) (tm : Nat → LV) (g : LHeap) (h : J68_2  g  K) : codeL Try.prog (Ok Try.prog) (nd68 [1, 1, 1]) ⟨tm, g⟩ (en68 K) := by
  try unfold J68_2 at h
  refine code2_sound ok_mono _ _ _ ?_
  refine kmp ?_ h
  generalize Ok Try.prog = C
  unfold en68
  as_aux_lemma => kernel_rfl

noncomputable def L68_4 (x0 x1 x2 : LV) (x7 : LV) (g : LHeap) (N4 : LV → LHeap → Prop) (K : LV → LHeap → Prop) : Prop :=
  vK (binL Try.prog .add 3 false x1 x2) fun t28 =>
  vK (binL Try.prog .lss 3 false x7 t28) fun t29 =>
  ifB t29 (
  vK (nilCheckL x0) fun t34 =>
  vK (ixAddrL (some 128) 1 t34 x7) fun t35 =>
  vK (loadV none t35 g) fun t36 =>
  ifB t36 (
  K (.bool false) g) (
  vK (nilCheckL x0) fun t39 =>
  vK (ixAddrL (some 128) 1 t39 x7) fun t40 =>
  gK (storeV 1 t40 (.bool true) g) fun g =>
  vK (binL Try.prog .add 3 true x7 (.int .i64 (1))) fun t31 =>
  N4 t31 g)) (
  J68_2  g  K)
theorem L68_4_ok (R4 : LV × LV × LV → LV → LHeap → Prop) (K : LV → LHeap → Prop) (tm : Nat → LV) (g : LHeap) (h : L68_4 (tm 0) (tm 1) (tm 2) (tm 7) g (fun s g => R4 ((tm 0), (tm 1), (tm 2)) s g) K) : codeL Try.prog (Ok Try.prog) (nd68 [1, 1, 0, 1, 0, 0]) ⟨tm, g⟩ (roundK (fun tm : Nat → LV => (tm 0, tm 1, tm 2)) (fun tm : Nat → LV => tm 7) R4 (exitL 0 (thenL (kj68_2  K) (en68 K)))) := by
  try unfold L68_4 at h
  unfold kj68_2
  generalize @J68_2 = Q68_2 at h ⊢
  refine code2_sound ok_mono _ _ _ ?_
  refine kmp ?_ h
  generalize Ok Try.prog = C
  unfold en68
  as_aux_lemma => kernel_rfl

noncomputable def J68_3 (x0 x1 x2 x7 : LV) (g : LHeap)  (K : LV → LHeap → Prop) : Prop :=
  loopP (fun s g N => L68_4 x0 x1 x2 s g N  K) x7 g
abbrev kj68_3  (K : LV → LHeap → Prop) : LSt → Prop := fun st => J68_3 (st.tm 0) (st.tm 1) (st.tm 2) (st.tm 7) st.g  K
theorem J68_3_ok  (K : LV → LHeap → Prop) (tm : Nat → LV) (g : LHeap) (h : J68_3 (tm 0) (tm 1) (tm 2) (tm 7) g  K) : codeL Try.prog (Ok Try.prog) (nd68 [1, 1, 0, 1]) ⟨tm, g⟩ (thenL (kj68_2  K) (en68 K)) := by
  refine block_i (b := nd68 [1, 1, 0, 1, 0]) (i := 0) (by kernel_rfl) ?_
  exact loop_glue (b := nd68 [1, 1, 0, 1, 0, 0]) (by kernel_rfl) (fun tm : Nat → LV => (tm 0, tm 1, tm 2)) (fun tm : Nat → LV => tm 7) (fun a s g N => L68_4 a.1 a.2.1 a.2.2 s g N  K) (fun tm g R h => L68_4_ok R  K tm g h) tm g h

noncomputable def J68_1 (x0 x1 x2 : LV) (g : LHeap)  (K : LV → LHeap → Prop) : Prop :=
  J68_3 x0 x1 x2 x1 g  K
abbrev kj68_1  (K : LV → LHeap → Prop) : LSt → Prop := fun st => J68_1 (st.tm 0) (st.tm 1) (st.tm 2) st.g  K
theorem J68_1_ok  (K : LV → LHeap → Prop) (tm : Nat → LV) (g : LHeap) (h : J68_1 (tm 0) (tm 1) (tm 2) g  K) : codeL Try.prog (Ok Try.prog) (nd68 [1, 1]) ⟨tm, g⟩ (en68 K) := by
  refine seq_i (a := nd68 [1, 1, 0]) (b := nd68 [1, 1, 1]) (k' := kj68_2  K) (by kernel_rfl) (fun st h => J68_2_ok  K st.tm st.g h) ?_
  refine seq_i (a := nd68 [1, 1, 0, 0]) (b := nd68 [1, 1, 0, 1]) (k' := kj68_3  K) (by kernel_rfl) (fun st h => J68_3_ok  K st.tm st.g h) ?_
  try unfold J68_1 at h
  unfold kj68_3
  generalize @J68_3 = Q68_3 at h ⊢
  unfold kj68_2
  generalize @J68_2 = Q68_2 at h ⊢
  refine code2_sound ok_mono _ _ _ ?_
  refine kmp ?_ h
  generalize Ok Try.prog = C
  unfold en68
  as_aux_lemma => kernel_rfl

noncomputable def J68_0 (x0 x1 x2 : LV) (g : LHeap)  (K : LV → LHeap → Prop) : Prop :=
  vK (binL Try.prog .lss 3 true x1 (.int .i64 (0))) fun t9 =>
  gd t9 false g (fun K => K x2 g) fun t11 g =>
  gd t9 false g (fun K => vK (binL Try.prog .lss 3 true t11 (.int .i64 (1))) fun v => K v g) fun t12 g =>
  vK (pickL t9 (.bool true) t12) fun t13 =>
  gd t13 false g (fun K => K x2 g) fun t15 g =>
  gd t13 false g (fun K => vK (binL Try.prog .gtr 3 true t15 (.int .i64 (128))) fun v => K v g) fun t16 g =>
  vK (pickL t13 (.bool true) t16) fun t17 =>
  gd t17 false g (fun K => K x1 g) fun t19 g =>
  gd t17 false g (fun K => K x2 g) fun t20 g =>
  gd t17 false g (fun K => vK (binL Try.prog .sub 3 true (.int .i64 (128)) t20) fun v => K v g) fun t21 g =>
  gd t17 false g (fun K => vK (binL Try.prog .gtr 3 false t19 t21) fun v => K v g) fun t22 g =>
  vK (pickL t17 (.bool true) t22) fun t23 =>
  ifB t23 (
  K (.bool false) g) (
  J68_1 x0 x1 x2 g  K)
abbrev kj68_0  (K : LV → LHeap → Prop) : LSt → Prop := fun st => J68_0 (st.tm 0) (st.tm 1) (st.tm 2) st.g  K
theorem J68_0_ok  (K : LV → LHeap → Prop) (tm : Nat → LV) (g : LHeap) (h : J68_0 (tm 0) (tm 1) (tm 2) g  K) : codeL Try.prog (Ok Try.prog) (nd68 [1]) ⟨tm, g⟩ (en68 K) := by
  refine seq_i (a := nd68 [1, 0]) (b := nd68 [1, 1]) (k' := kj68_1  K) (by kernel_rfl) (fun st h => J68_1_ok  K st.tm st.g h) ?_
  try unfold J68_0 at h
  unfold kj68_1
  generalize @J68_1 = Q68_1 at h ⊢
  refine code2_sound ok_mono _ _ _ ?_
  refine kmp ?_ h
  generalize Ok Try.prog = C
  unfold en68
  as_aux_lemma => kernel_rfl

noncomputable def F68 (x0 x1 x2 : LV) (g : LHeap) (K : LV → LHeap → Prop) : Prop :=
  J68_0 x0 x1 x2 g  K
theorem ok68 {x0 x1 x2 : LV} {g : LHeap} {K : LV → LHeap → Prop} (h : g.Wf → (∀ v ∈ ([x0, x1, x2] : List LV), ∀ b ∈ v.objs, b < g.next) → F68 x0 x1 x2 g K) : Ok Try.prog 68 [x0, x1, x2] g K := by
  refine ok_fw Try.mixed Try.func68 (by kernel_rfl) (by kernel_rfl) (c := nd68 []) (by kernel_rfl) fun wf lt => ?_
  rw [← en68_eq]
  replace h := h wf lt
  generalize hs : startL _ = tm
  replace h : F68 (tm 0) (tm 1) (tm 2) g K := by rw [← hs]; exact h
  refine seq_i (a := nd68 [0]) (b := nd68 [1]) (k' := kj68_0  K) (by kernel_rfl) (fun st h => J68_0_ok  K st.tm st.g h) ?_
  try unfold F68 at h
  unfold kj68_0
  generalize @J68_0 = Q68_0 at h ⊢
  refine code2_sound ok_mono _ _ _ ?_
  refine kmp ?_ h
  generalize Ok Try.prog = C
  unfold en68
  as_aux_lemma => kernel_rfl

/-! parapet/parapetref23.marks (39 slots) -/
noncomputable def en70 (K : LV → LHeap → Prop) : LEx → LSt → Prop := fun e st => match e with
  | .exit _ => False
  | _ => K (st.tm 6) st.g
theorem en70_eq (K : LV → LHeap → Prop) : en70 K = endL Try.prog Try.f70 K := by
  funext e st
  cases e <;> kernel_rfl
noncomputable def nd70 (p : List Nat) : Code := subC p (bodyC Try.prog 70)
noncomputable def J70_2 (g : LHeap)  (K : LV → LHeap → Prop) : Prop :=
  K (.bool true) g
abbrev kj70_2  (K : LV → LHeap → Prop) : LSt → Prop := fun st => J70_2  st.g  K
theorem J70_2_ok  (K : LV → LHeap → Prop) (tm : Nat → LV) (g : LHeap) (h : J70_2  g  K) : codeL Try.prog (Ok Try.prog) (nd70 [1, 1, 1]) ⟨tm, g⟩ (en70 K) := by
  try unfold J70_2 at h
  refine code2_sound ok_mono _ _ _ ?_
  refine kmp ?_ h
  generalize Ok Try.prog = C
  unfold en70
  as_aux_lemma => kernel_rfl

noncomputable def L70_4 (x0 x1 x2 : LV) (x7 : LV) (g : LHeap) (N4 : LV → LHeap → Prop) (K : LV → LHeap → Prop) : Prop :=
  vK (binL Try.prog .add 3 false x1 x2) fun t28 =>
  vK (binL Try.prog .lss 3 false x7 t28) fun t29 =>
  ifB t29 (
  vK (ixAddrL none 1 x0 x7) fun t34 =>
  vK (loadV none t34 g) fun t35 =>
  ifB t35 (
  K (.bool false) g) (
  vK (ixAddrL none 1 x0 x7) fun t38 =>
  gK (storeV 1 t38 (.bool true) g) fun g =>
  vK (binL Try.prog .add 3 true x7 (.int .i64 (1))) fun t31 =>
  N4 t31 g)) (
  J70_2  g  K)
theorem L70_4_ok (R4 : LV × LV × LV → LV → LHeap → Prop) (K : LV → LHeap → Prop) (tm : Nat → LV) (g : LHeap) (h : L70_4 (tm 0) (tm 1) (tm 2) (tm 7) g (fun s g => R4 ((tm 0), (tm 1), (tm 2)) s g) K) : codeL Try.prog (Ok Try.prog) (nd70 [1, 1, 0, 1, 0, 0]) ⟨tm, g⟩ (roundK (fun tm : Nat → LV => (tm 0, tm 1, tm 2)) (fun tm : Nat → LV => tm 7) R4 (exitL 0 (thenL (kj70_2  K) (en70 K)))) := by
  try unfold L70_4 at h
  unfold kj70_2
  generalize @J70_2 = Q70_2 at h ⊢
  refine code2_sound ok_mono _ _ _ ?_
  refine kmp ?_ h
  generalize Ok Try.prog = C
  unfold en70
  as_aux_lemma => kernel_rfl

noncomputable def J70_3 (x0 x1 x2 x7 : LV) (g : LHeap)  (K : LV → LHeap → Prop) : Prop :=
  loopP (fun s g N => L70_4 x0 x1 x2 s g N  K) x7 g
abbrev kj70_3  (K : LV → LHeap → Prop) : LSt → Prop := fun st => J70_3 (st.tm 0) (st.tm 1) (st.tm 2) (st.tm 7) st.g  K
theorem J70_3_ok  (K : LV → LHeap → Prop) (tm : Nat → LV) (g : LHeap) (h : J70_3 (tm 0) (tm 1) (tm 2) (tm 7) g  K) : codeL Try.prog (Ok Try.prog) (nd70 [1, 1, 0, 1]) ⟨tm, g⟩ (thenL (kj70_2  K) (en70 K)) := by
  refine block_i (b := nd70 [1, 1, 0, 1, 0]) (i := 0) (by kernel_rfl) ?_
  exact loop_glue (b := nd70 [1, 1, 0, 1, 0, 0]) (by kernel_rfl) (fun tm : Nat → LV => (tm 0, tm 1, tm 2)) (fun tm : Nat → LV => tm 7) (fun a s g N => L70_4 a.1 a.2.1 a.2.2 s g N  K) (fun tm g R h => L70_4_ok R  K tm g h) tm g h

noncomputable def J70_1 (x0 x1 x2 : LV) (g : LHeap)  (K : LV → LHeap → Prop) : Prop :=
  J70_3 x0 x1 x2 x1 g  K
abbrev kj70_1  (K : LV → LHeap → Prop) : LSt → Prop := fun st => J70_1 (st.tm 0) (st.tm 1) (st.tm 2) st.g  K
theorem J70_1_ok  (K : LV → LHeap → Prop) (tm : Nat → LV) (g : LHeap) (h : J70_1 (tm 0) (tm 1) (tm 2) g  K) : codeL Try.prog (Ok Try.prog) (nd70 [1, 1]) ⟨tm, g⟩ (en70 K) := by
  refine seq_i (a := nd70 [1, 1, 0]) (b := nd70 [1, 1, 1]) (k' := kj70_2  K) (by kernel_rfl) (fun st h => J70_2_ok  K st.tm st.g h) ?_
  refine seq_i (a := nd70 [1, 1, 0, 0]) (b := nd70 [1, 1, 0, 1]) (k' := kj70_3  K) (by kernel_rfl) (fun st h => J70_3_ok  K st.tm st.g h) ?_
  try unfold J70_1 at h
  unfold kj70_3
  generalize @J70_3 = Q70_3 at h ⊢
  unfold kj70_2
  generalize @J70_2 = Q70_2 at h ⊢
  refine code2_sound ok_mono _ _ _ ?_
  refine kmp ?_ h
  generalize Ok Try.prog = C
  unfold en70
  as_aux_lemma => kernel_rfl

noncomputable def J70_0 (x0 x1 x2 : LV) (g : LHeap)  (K : LV → LHeap → Prop) : Prop :=
  vK (binL Try.prog .lss 3 true x1 (.int .i64 (0))) fun t9 =>
  gd t9 false g (fun K => K x2 g) fun t11 g =>
  gd t9 false g (fun K => vK (binL Try.prog .lss 3 true t11 (.int .i64 (1))) fun v => K v g) fun t12 g =>
  vK (pickL t9 (.bool true) t12) fun t13 =>
  gd t13 false g (fun K => K x2 g) fun t15 g =>
  gd t13 false g (fun K => vK (binL Try.prog .gtr 3 true t15 (.int .i64 (128))) fun v => K v g) fun t16 g =>
  vK (pickL t13 (.bool true) t16) fun t17 =>
  gd t17 false g (fun K => K x1 g) fun t19 g =>
  gd t17 false g (fun K => K x2 g) fun t20 g =>
  gd t17 false g (fun K => vK (binL Try.prog .sub 3 true (.int .i64 (128)) t20) fun v => K v g) fun t21 g =>
  gd t17 false g (fun K => vK (binL Try.prog .gtr 3 false t19 t21) fun v => K v g) fun t22 g =>
  vK (pickL t17 (.bool true) t22) fun t23 =>
  ifB t23 (
  K (.bool false) g) (
  J70_1 x0 x1 x2 g  K)
abbrev kj70_0  (K : LV → LHeap → Prop) : LSt → Prop := fun st => J70_0 (st.tm 0) (st.tm 1) (st.tm 2) st.g  K
theorem J70_0_ok  (K : LV → LHeap → Prop) (tm : Nat → LV) (g : LHeap) (h : J70_0 (tm 0) (tm 1) (tm 2) g  K) : codeL Try.prog (Ok Try.prog) (nd70 [1]) ⟨tm, g⟩ (en70 K) := by
  refine seq_i (a := nd70 [1, 0]) (b := nd70 [1, 1]) (k' := kj70_1  K) (by kernel_rfl) (fun st h => J70_1_ok  K st.tm st.g h) ?_
  try unfold J70_0 at h
  unfold kj70_1
  generalize @J70_1 = Q70_1 at h ⊢
  refine code2_sound ok_mono _ _ _ ?_
  refine kmp ?_ h
  generalize Ok Try.prog = C
  unfold en70
  as_aux_lemma => kernel_rfl

noncomputable def F70 (x0 x1 x2 : LV) (g : LHeap) (K : LV → LHeap → Prop) : Prop :=
  J70_0 x0 x1 x2 g  K
theorem ok70 {x0 x1 x2 : LV} {g : LHeap} {K : LV → LHeap → Prop} (h : g.Wf → (∀ v ∈ ([x0, x1, x2] : List LV), ∀ b ∈ v.objs, b < g.next) → F70 x0 x1 x2 g K) : Ok Try.prog 70 [x0, x1, x2] g K := by
  refine ok_fw Try.mixed Try.func70 (by kernel_rfl) (by kernel_rfl) (c := nd70 []) (by kernel_rfl) fun wf lt => ?_
  rw [← en70_eq]
  replace h := h wf lt
  generalize hs : startL _ = tm
  replace h : F70 (tm 0) (tm 1) (tm 2) g K := by rw [← hs]; exact h
  refine seq_i (a := nd70 [0]) (b := nd70 [1]) (k' := kj70_0  K) (by kernel_rfl) (fun st h => J70_0_ok  K st.tm st.g h) ?_
  try unfold F70 at h
  unfold kj70_0
  generalize @J70_0 = Q70_0 at h ⊢
  refine code2_sound ok_mono _ _ _ ?_
  refine kmp ?_ h
  generalize Ok Try.prog = C
  unfold en70
  as_aux_lemma => kernel_rfl

/-! parapet/image.pages (7 slots) -/
noncomputable def en69 (K : LV → LHeap → Prop) : LEx → LSt → Prop := fun e st => match e with
  | .exit _ => False
  | _ => K (st.tm 2) st.g
theorem en69_eq (K : LV → LHeap → Prop) : en69 K = endL Try.prog Try.f69 K := by
  funext e st
  cases e <;> kernel_rfl
noncomputable def nd69 (p : List Nat) : Code := subC p (bodyC Try.prog 69)
noncomputable def F69 (x0 : LV) (g : LHeap) (K : LV → LHeap → Prop) : Prop :=
  vK (binL Try.prog .add 3 true x0 (.int .i64 (256))) fun t4 =>
  vK (binL Try.prog .sub 3 true t4 (.int .i64 (1))) fun t5 =>
  vK (binL Try.prog .quo 3 true t5 (.int .i64 (256))) fun t6 =>
  K t6 g
theorem ok69 {x0 : LV} {g : LHeap} {K : LV → LHeap → Prop} (h : g.Wf → (∀ v ∈ ([x0] : List LV), ∀ b ∈ v.objs, b < g.next) → F69 x0 g K) : Ok Try.prog 69 [x0] g K := by
  refine ok_fw Try.mixed Try.func69 (by kernel_rfl) (by kernel_rfl) (c := nd69 []) (by kernel_rfl) fun wf lt => ?_
  rw [← en69_eq]
  replace h := h wf lt
  generalize hs : startL _ = tm
  replace h : F69 (tm 0) g K := by rw [← hs]; exact h
  try unfold F69 at h
  refine code2_sound ok_mono _ _ _ ?_
  refine kmp ?_ h
  generalize Ok Try.prog = C
  unfold en69
  as_aux_lemma => kernel_rfl

/-! parapet/image.Check (99 slots) -/
noncomputable def en41 (K : LV → LHeap → Prop) : LEx → LSt → Prop := fun e st => match e with
  | .exit _ => False
  | _ => K (st.tm 2) st.g
theorem en41_eq (K : LV → LHeap → Prop) : en41 K = endL Try.prog Try.f41 K := by
  funext e st
  cases e <;> kernel_rfl
noncomputable def nd41 (p : List Nat) : Code := subC p (bodyC Try.prog 41)
noncomputable def J41_5 (x4 : LV) (g : LHeap)  (K : LV → LHeap → Prop) : Prop :=
  vK (binL Try.prog .gtr 3 true x4 (.int .i64 (16384))) fun t98 =>
  ifB t98 (
  K (.int .i64 (230)) g) (
  K (.int .i64 (0)) g)
abbrev kj41_5  (K : LV → LHeap → Prop) : LSt → Prop := fun st => J41_5 (st.tm 4) st.g  K
theorem J41_5_ok  (K : LV → LHeap → Prop) (tm : Nat → LV) (g : LHeap) (h : J41_5 (tm 4) g  K) : codeL Try.prog (Ok Try.prog) (nd41 [1, 1, 1, 1, 1, 1]) ⟨tm, g⟩ (en41 K) := by
  try unfold J41_5 at h
  refine code2_sound ok_mono _ _ _ ?_
  refine kmp ?_ h
  generalize Ok Try.prog = C
  unfold en41
  as_aux_lemma => kernel_rfl

noncomputable def L41_7 (x3 x4 x84 x85 : LV) (x86 : LV) (g : LHeap) (N7 : LV → LHeap → Prop) (K : LV → LHeap → Prop) : Prop :=
  vK (binL Try.prog .lss 3 false x86 x85) fun t87 =>
  ifB t87 (
  vK (ixAddrL none 2 x84 x86) fun t88 =>
  vK (loadV (some 2) t88 g) fun t89 =>
  oK (newL (.agg [(.int .i64 (0)), (.int .i64 (0))]) g) fun t8 g =>
  gK (storeV 2 t8 t89 g) fun g =>
  vK (fieldAddrL 0 t8) fun t90 =>
  vK (loadV none t90 g) fun t91 =>
  vK (fieldAddrL 1 t8) fun t92 =>
  vK (loadV none t92 g) fun t93 =>
  Ok Try.prog 68 [x3, t91, t93] g fun t94 g =>
  vK (unL .not t94) fun t95 =>
  ifB t95 (
  K (.int .i64 (230)) g) (
  vK (binL Try.prog .add 3 true x86 (.int .i64 (1))) fun t96 =>
  N7 t96 g)) (
  J41_5 x4 g  K)
theorem L41_7_ok (R7 : LV × LV × LV × LV → LV → LHeap → Prop) (K : LV → LHeap → Prop) (tm : Nat → LV) (g : LHeap) (h : L41_7 (tm 3) (tm 4) (tm 84) (tm 85) (tm 86) g (fun s g => R7 ((tm 3), (tm 4), (tm 84), (tm 85)) s g) K) : codeL Try.prog (Ok Try.prog) (nd41 [1, 1, 1, 1, 1, 0, 1, 0, 0]) ⟨tm, g⟩ (roundK (fun tm : Nat → LV => (tm 3, tm 4, tm 84, tm 85)) (fun tm : Nat → LV => tm 86) R7 (exitL 2 (thenL (kj41_5  K) (en41 K)))) := by
  try unfold L41_7 at h
  unfold kj41_5
  generalize @J41_5 = Q41_5 at h ⊢
  refine code2_sound ok_mono _ _ _ ?_
  refine kmp ?_ h
  generalize Ok Try.prog = C
  unfold en41
  as_aux_lemma => kernel_rfl

noncomputable def J41_6 (x3 x4 x84 x85 x86 : LV) (g : LHeap)  (K : LV → LHeap → Prop) : Prop :=
  loopP (fun s g N => L41_7 x3 x4 x84 x85 s g N  K) x86 g
abbrev kj41_6  (K : LV → LHeap → Prop) : LSt → Prop := fun st => J41_6 (st.tm 3) (st.tm 4) (st.tm 84) (st.tm 85) (st.tm 86) st.g  K
theorem J41_6_ok  (K : LV → LHeap → Prop) (tm : Nat → LV) (g : LHeap) (h : J41_6 (tm 3) (tm 4) (tm 84) (tm 85) (tm 86) g  K) : codeL Try.prog (Ok Try.prog) (nd41 [1, 1, 1, 1, 1, 0, 1]) ⟨tm, g⟩ (thenL (kj41_5  K) (en41 K)) := by
  refine block_i (b := nd41 [1, 1, 1, 1, 1, 0, 1, 0]) (i := 2) (by kernel_rfl) ?_
  exact loop_glue (b := nd41 [1, 1, 1, 1, 1, 0, 1, 0, 0]) (by kernel_rfl) (fun tm : Nat → LV => (tm 3, tm 4, tm 84, tm 85)) (fun tm : Nat → LV => tm 86) (fun a s g N => L41_7 a.1 a.2.1 a.2.2.1 a.2.2.2 s g N  K) (fun tm g R h => L41_7_ok R  K tm g h) tm g h

noncomputable def J41_4 (x1 x3 x4 : LV) (g : LHeap)  (K : LV → LHeap → Prop) : Prop :=
  vK (fieldAddrL 2 x1) fun t83 =>
  vK (loadV none t83 g) fun t84 =>
  oK (builtinL Try.prog .len [25] [t84] g) fun t85 g =>
  J41_6 x3 x4 t84 t85 (.int .i64 (0)) g  K
abbrev kj41_4  (K : LV → LHeap → Prop) : LSt → Prop := fun st => J41_4 (st.tm 1) (st.tm 3) (st.tm 4) st.g  K
theorem J41_4_ok  (K : LV → LHeap → Prop) (tm : Nat → LV) (g : LHeap) (h : J41_4 (tm 1) (tm 3) (tm 4) g  K) : codeL Try.prog (Ok Try.prog) (nd41 [1, 1, 1, 1, 1]) ⟨tm, g⟩ (en41 K) := by
  refine seq_i (a := nd41 [1, 1, 1, 1, 1, 0]) (b := nd41 [1, 1, 1, 1, 1, 1]) (k' := kj41_5  K) (by kernel_rfl) (fun st h => J41_5_ok  K st.tm st.g h) ?_
  refine seq_i (a := nd41 [1, 1, 1, 1, 1, 0, 0]) (b := nd41 [1, 1, 1, 1, 1, 0, 1]) (k' := kj41_6  K) (by kernel_rfl) (fun st h => J41_6_ok  K st.tm st.g h) ?_
  try unfold J41_4 at h
  unfold kj41_6
  generalize @J41_6 = Q41_6 at h ⊢
  unfold kj41_5
  generalize @J41_5 = Q41_5 at h ⊢
  refine code2_sound ok_mono _ _ _ ?_
  refine kmp ?_ h
  generalize Ok Try.prog = C
  unfold en41
  as_aux_lemma => kernel_rfl

noncomputable def J41_12 (x1 x3 x4 x45 x46 x47 : LV) (g : LHeap) (N9 : LV × LV → LHeap → Prop) (K : LV → LHeap → Prop) : Prop :=
  vK (binL Try.prog .add 3 true x47 (.int .i64 (1))) fun t82 =>
  N9 (x4, t82) g
abbrev kj41_12 (R9 : LV × LV × LV × LV → LV × LV → LHeap → Prop) (K : LV → LHeap → Prop) : LSt → Prop := fun st => J41_12 (st.tm 1) (st.tm 3) (st.tm 4) (st.tm 45) (st.tm 46) (st.tm 47) st.g (fun s g => R9 ((st.tm 1), (st.tm 3), (st.tm 45), (st.tm 46)) s g) K
theorem J41_12_ok (R9 : LV × LV × LV × LV → LV × LV → LHeap → Prop) (K : LV → LHeap → Prop) (tm : Nat → LV) (g : LHeap) (h : J41_12 (tm 1) (tm 3) (tm 4) (tm 45) (tm 46) (tm 47) g (fun s g => R9 ((tm 1), (tm 3), (tm 45), (tm 46)) s g) K) : codeL Try.prog (Ok Try.prog) (nd41 [1, 1, 1, 1, 0, 1, 0, 0, 1, 1, 1]) ⟨tm, g⟩ (roundK (fun tm : Nat → LV => (tm 1, tm 3, tm 45, tm 46)) (fun tm : Nat → LV => (tm 4, tm 47)) R9 (exitL 0 (thenL (kj41_4  K) (en41 K)))) := by
  try unfold J41_12 at h
  unfold kj41_4
  generalize @J41_4 = Q41_4 at h ⊢
  refine code2_sound ok_mono _ _ _ ?_
  refine kmp ?_ h
  generalize Ok Try.prog = C
  unfold en41
  as_aux_lemma => kernel_rfl

noncomputable def J41_14 (x1 x3 x4 x6 x45 x46 x47 : LV) (g : LHeap) (N9 : LV × LV → LHeap → Prop) (K : LV → LHeap → Prop) : Prop :=
  vK (fieldAddrL 1 x6) fun t78 =>
  vK (loadV none t78 g) fun t79 =>
  oK (builtinL Try.prog .len [23] [t79] g) fun t80 g =>
  vK (binL Try.prog .add 3 false x4 t80) fun t81 =>
  J41_12 x1 x3 t81 x45 x46 x47 g N9 K
abbrev kj41_14 (R9 : LV × LV × LV × LV → LV × LV → LHeap → Prop) (K : LV → LHeap → Prop) : LSt → Prop := fun st => J41_14 (st.tm 1) (st.tm 3) (st.tm 4) (st.tm 6) (st.tm 45) (st.tm 46) (st.tm 47) st.g (fun s g => R9 ((st.tm 1), (st.tm 3), (st.tm 45), (st.tm 46)) s g) K
theorem J41_14_ok (R9 : LV × LV × LV × LV → LV × LV → LHeap → Prop) (K : LV → LHeap → Prop) (tm : Nat → LV) (g : LHeap) (h : J41_14 (tm 1) (tm 3) (tm 4) (tm 6) (tm 45) (tm 46) (tm 47) g (fun s g => R9 ((tm 1), (tm 3), (tm 45), (tm 46)) s g) K) : codeL Try.prog (Ok Try.prog) (nd41 [1, 1, 1, 1, 0, 1, 0, 0, 1, 1, 0, 0, 1, 1]) ⟨tm, g⟩ (exitL 1 (thenL (kj41_12 R9 K) (roundK (fun tm : Nat → LV => (tm 1, tm 3, tm 45, tm 46)) (fun tm : Nat → LV => (tm 4, tm 47)) R9 (exitL 0 (thenL (kj41_4  K) (en41 K)))))) := by
  try unfold J41_14 at h
  unfold kj41_12
  generalize @J41_12 = Q41_12 at h ⊢
  unfold kj41_4
  generalize @J41_4 = Q41_4 at h ⊢
  refine code2_sound ok_mono _ _ _ ?_
  refine kmp ?_ h
  generalize Ok Try.prog = C
  unfold en41
  as_aux_lemma => kernel_rfl

noncomputable def J41_13 (x1 x3 x4 x6 x45 x46 x47 : LV) (g : LHeap) (N9 : LV × LV → LHeap → Prop) (K : LV → LHeap → Prop) : Prop :=
  vK (fieldAddrL 0 x6) fun t51 =>
  vK (loadV none t51 g) fun t52 =>
  vK (binL Try.prog .lss 3 true t52 (.int .i64 (0))) fun t53 =>
  gdV t53 false (fieldAddrL 0 x6) fun t55 =>
  gdV t53 false (loadV none t55 g) fun t56 =>
  gdV t53 false (binL Try.prog .rem 3 true t56 (.int .i64 (256))) fun t57 =>
  gdV t53 false (binL Try.prog .neq 3 true t57 (.int .i64 (0))) fun t58 =>
  vK (pickL t53 (.bool true) t58) fun t59 =>
  gdV t59 false (fieldAddrL 1 x6) fun t61 =>
  gdV t59 false (loadV none t61 g) fun t62 =>
  gdV t59 false (lenL Try.prog 23 t62 g) fun t63 =>
  gdV t59 false (binL Try.prog .gtr 3 true t63 (.int .i64 (16384))) fun t64 =>
  vK (pickL t59 (.bool true) t64) fun t65 =>
  gdV t65 false (fieldAddrL 0 x6) fun t67 =>
  gdD t65 false (loadV none t67 g) (fun t68 =>
  gdV t65 false (binL Try.prog .quo 3 true t68 (.int .i64 (256))) fun t69 =>
  gdV t65 false (fieldAddrL 1 x6) fun t70 =>
  gdV t65 false (loadV none t70 g) fun t71 =>
  gdV t65 false (lenL Try.prog 23 t71 g) fun t72 =>
  ((gd t65 false g (fun K => Ok Try.prog 69 [t72] g K) fun t73 g =>
  ((loadV none t67 g) = some t68 ∧ 
  ((gd t65 false g (fun K => Ok Try.prog 68 [x3, t69, t73] g K) fun t74 g =>
  
  gdV t65 false (unL .not t74) fun t75 =>
  vK (pickL t65 (.bool true) t75) fun t76 =>
  ifB t76 (
  K (.int .i64 (230)) g) (
  J41_14 x1 x3 x4 x6 x45 x46 x47 g N9 K)) ∧ True))) ∧ True)) (
  gdV t65 false (binL Try.prog .quo 3 true undefL (.int .i64 (256))) fun t69 =>
  gdV t65 false (fieldAddrL 1 x6) fun t70 =>
  gdV t65 false (loadV none t70 g) fun t71 =>
  gdV t65 false (lenL Try.prog 23 t71 g) fun t72 =>
  ((gd t65 false g (fun K => Ok Try.prog 69 [t72] g K) fun t73 g =>
  
  ((gd t65 false g (fun K => Ok Try.prog 68 [x3, t69, t73] g K) fun t74 g =>
  
  gdV t65 false (unL .not t74) fun t75 =>
  vK (pickL t65 (.bool true) t75) fun t76 =>
  ifB t76 (
  K (.int .i64 (230)) g) (
  J41_14 x1 x3 x4 x6 x45 x46 x47 g N9 K)) ∧ True)) ∧ True))
abbrev kj41_13 (R9 : LV × LV × LV × LV → LV × LV → LHeap → Prop) (K : LV → LHeap → Prop) : LSt → Prop := fun st => J41_13 (st.tm 1) (st.tm 3) (st.tm 4) (st.tm 6) (st.tm 45) (st.tm 46) (st.tm 47) st.g (fun s g => R9 ((st.tm 1), (st.tm 3), (st.tm 45), (st.tm 46)) s g) K
theorem J41_13_ok (R9 : LV × LV × LV × LV → LV × LV → LHeap → Prop) (K : LV → LHeap → Prop) (tm : Nat → LV) (g : LHeap) (h : J41_13 (tm 1) (tm 3) (tm 4) (tm 6) (tm 45) (tm 46) (tm 47) g (fun s g => R9 ((tm 1), (tm 3), (tm 45), (tm 46)) s g) K) : codeL Try.prog (Ok Try.prog) (nd41 [1, 1, 1, 1, 0, 1, 0, 0, 1, 1, 0, 0, 1]) ⟨tm, g⟩ (exitL 1 (thenL (kj41_12 R9 K) (roundK (fun tm : Nat → LV => (tm 1, tm 3, tm 45, tm 46)) (fun tm : Nat → LV => (tm 4, tm 47)) R9 (exitL 0 (thenL (kj41_4  K) (en41 K)))))) := by
  refine seq_i (a := nd41 [1, 1, 1, 1, 0, 1, 0, 0, 1, 1, 0, 0, 1, 0]) (b := nd41 [1, 1, 1, 1, 0, 1, 0, 0, 1, 1, 0, 0, 1, 1]) (k' := kj41_14 R9 K) (by kernel_rfl) (fun st h => J41_14_ok R9 K st.tm st.g h) ?_
  try unfold J41_13 at h
  unfold kj41_14
  generalize @J41_14 = Q41_14 at h ⊢
  unfold kj41_12
  generalize @J41_12 = Q41_12 at h ⊢
  unfold kj41_4
  generalize @J41_4 = Q41_4 at h ⊢
  refine code3_sound ok_mono (pl := [(8, (.lt 0 false (.lt 1 false (.lt 2 false (.lt 3 false (.lt 4 false (.lt 5 false (.lt 6 false (.lt 7 false (.lt 8 false (.lt 9 false (.lt 10 false (.lt 11 false (.lt 12 false (.lt 13 false (.lt 14 false (.lt 15 false (.lt 16 false (.lt 17 true (.lt 18 false (.lt 19 false (.lt 20 false (.lt 21 false (.hv 22 (.hv 23 (.lt 24 false (.lt 25 false .nil)) .nil) .nil))))))))))))))))))))))))]) _ _ _ (by kernel_rfl) ?_
  refine kmp ?_ h
  generalize Ok Try.prog = C
  unfold en41
  as_aux_lemma => kernel_rfl

noncomputable def J41_11 (x1 x3 x4 x45 x46 x47 : LV) (g : LHeap) (N9 : LV × LV → LHeap → Prop) (K : LV → LHeap → Prop) : Prop :=
  vK (ixAddrL none 2 x45 x47) fun t49 =>
  vK (loadV (some 2) t49 g) fun t50 =>
  oK (newL (.agg [(.int .i64 (0)), .nils]) g) fun t6 g =>
  gK (storeV 2 t6 t50 g) fun g =>
  J41_13 x1 x3 x4 t6 x45 x46 x47 g N9 K
abbrev kj41_11 (R9 : LV × LV × LV × LV → LV × LV → LHeap → Prop) (K : LV → LHeap → Prop) : LSt → Prop := fun st => J41_11 (st.tm 1) (st.tm 3) (st.tm 4) (st.tm 45) (st.tm 46) (st.tm 47) st.g (fun s g => R9 ((st.tm 1), (st.tm 3), (st.tm 45), (st.tm 46)) s g) K
theorem J41_11_ok (R9 : LV × LV × LV × LV → LV × LV → LHeap → Prop) (K : LV → LHeap → Prop) (tm : Nat → LV) (g : LHeap) (h : J41_11 (tm 1) (tm 3) (tm 4) (tm 45) (tm 46) (tm 47) g (fun s g => R9 ((tm 1), (tm 3), (tm 45), (tm 46)) s g) K) : codeL Try.prog (Ok Try.prog) (nd41 [1, 1, 1, 1, 0, 1, 0, 0, 1, 1]) ⟨tm, g⟩ (roundK (fun tm : Nat → LV => (tm 1, tm 3, tm 45, tm 46)) (fun tm : Nat → LV => (tm 4, tm 47)) R9 (exitL 0 (thenL (kj41_4  K) (en41 K)))) := by
  refine seq_i (a := nd41 [1, 1, 1, 1, 0, 1, 0, 0, 1, 1, 0]) (b := nd41 [1, 1, 1, 1, 0, 1, 0, 0, 1, 1, 1]) (k' := kj41_12 R9 K) (by kernel_rfl) (fun st h => J41_12_ok R9 K st.tm st.g h) ?_
  refine block_i (b := nd41 [1, 1, 1, 1, 0, 1, 0, 0, 1, 1, 0, 0]) (i := 1) (by kernel_rfl) ?_
  refine seq_i (a := nd41 [1, 1, 1, 1, 0, 1, 0, 0, 1, 1, 0, 0, 0]) (b := nd41 [1, 1, 1, 1, 0, 1, 0, 0, 1, 1, 0, 0, 1]) (k' := kj41_13 R9 K) (by kernel_rfl) (fun st h => J41_13_ok R9 K st.tm st.g h) ?_
  try unfold J41_11 at h
  unfold kj41_13
  generalize @J41_13 = Q41_13 at h ⊢
  unfold kj41_12
  generalize @J41_12 = Q41_12 at h ⊢
  unfold kj41_4
  generalize @J41_4 = Q41_4 at h ⊢
  refine code2_sound ok_mono _ _ _ ?_
  refine kmp ?_ h
  generalize Ok Try.prog = C
  unfold en41
  as_aux_lemma => kernel_rfl

noncomputable def J41_10 (x1 x3 x4 x45 x46 x47 x48 : LV) (g : LHeap) (N9 : LV × LV → LHeap → Prop) (K : LV → LHeap → Prop) : Prop :=
  ifB x48 (
  J41_11 x1 x3 x4 x45 x46 x47 g N9 K) (
  J41_4 x1 x3 x4 g  K)
abbrev kj41_10 (R9 : LV × LV × LV × LV → LV × LV → LHeap → Prop) (K : LV → LHeap → Prop) : LSt → Prop := fun st => J41_10 (st.tm 1) (st.tm 3) (st.tm 4) (st.tm 45) (st.tm 46) (st.tm 47) (st.tm 48) st.g (fun s g => R9 ((st.tm 1), (st.tm 3), (st.tm 45), (st.tm 46)) s g) K
theorem J41_10_ok (R9 : LV × LV × LV × LV → LV × LV → LHeap → Prop) (K : LV → LHeap → Prop) (tm : Nat → LV) (g : LHeap) (h : J41_10 (tm 1) (tm 3) (tm 4) (tm 45) (tm 46) (tm 47) (tm 48) g (fun s g => R9 ((tm 1), (tm 3), (tm 45), (tm 46)) s g) K) : codeL Try.prog (Ok Try.prog) (nd41 [1, 1, 1, 1, 0, 1, 0, 0, 1]) ⟨tm, g⟩ (roundK (fun tm : Nat → LV => (tm 1, tm 3, tm 45, tm 46)) (fun tm : Nat → LV => (tm 4, tm 47)) R9 (exitL 0 (thenL (kj41_4  K) (en41 K)))) := by
  refine seq_i (a := nd41 [1, 1, 1, 1, 0, 1, 0, 0, 1, 0]) (b := nd41 [1, 1, 1, 1, 0, 1, 0, 0, 1, 1]) (k' := kj41_11 R9 K) (by kernel_rfl) (fun st h => J41_11_ok R9 K st.tm st.g h) ?_
  try unfold J41_10 at h
  unfold kj41_11
  generalize @J41_11 = Q41_11 at h ⊢
  unfold kj41_4
  generalize @J41_4 = Q41_4 at h ⊢
  refine code2_sound ok_mono _ _ _ ?_
  refine kmp ?_ h
  generalize Ok Try.prog = C
  unfold en41
  as_aux_lemma => kernel_rfl

noncomputable def L41_9 (x1 x3 x45 x46 : LV) (x4 x47 : LV) (g : LHeap) (N9 : LV × LV → LHeap → Prop) (K : LV → LHeap → Prop) : Prop :=
  vK (binL Try.prog .lss 3 false x47 x46) fun t48 =>
  J41_10 x1 x3 x4 x45 x46 x47 t48 g N9 K
theorem L41_9_ok (R9 : LV × LV × LV × LV → LV × LV → LHeap → Prop) (K : LV → LHeap → Prop) (tm : Nat → LV) (g : LHeap) (h : L41_9 (tm 1) (tm 3) (tm 45) (tm 46) (tm 4) (tm 47) g (fun s g => R9 ((tm 1), (tm 3), (tm 45), (tm 46)) s g) K) : codeL Try.prog (Ok Try.prog) (nd41 [1, 1, 1, 1, 0, 1, 0, 0]) ⟨tm, g⟩ (roundK (fun tm : Nat → LV => (tm 1, tm 3, tm 45, tm 46)) (fun tm : Nat → LV => (tm 4, tm 47)) R9 (exitL 0 (thenL (kj41_4  K) (en41 K)))) := by
  refine seq_i (a := nd41 [1, 1, 1, 1, 0, 1, 0, 0, 0]) (b := nd41 [1, 1, 1, 1, 0, 1, 0, 0, 1]) (k' := kj41_10 R9 K) (by kernel_rfl) (fun st h => J41_10_ok R9 K st.tm st.g h) ?_
  try unfold L41_9 at h
  unfold kj41_10
  generalize @J41_10 = Q41_10 at h ⊢
  unfold kj41_4
  generalize @J41_4 = Q41_4 at h ⊢
  refine code2_sound ok_mono _ _ _ ?_
  refine kmp ?_ h
  generalize Ok Try.prog = C
  unfold en41
  as_aux_lemma => kernel_rfl

noncomputable def J41_8 (x1 x3 x4 x45 x46 x47 : LV) (g : LHeap)  (K : LV → LHeap → Prop) : Prop :=
  loopP (fun s g N => L41_9 x1 x3 x45 x46 s.1 s.2 g N  K) (x4, x47) g
abbrev kj41_8  (K : LV → LHeap → Prop) : LSt → Prop := fun st => J41_8 (st.tm 1) (st.tm 3) (st.tm 4) (st.tm 45) (st.tm 46) (st.tm 47) st.g  K
theorem J41_8_ok  (K : LV → LHeap → Prop) (tm : Nat → LV) (g : LHeap) (h : J41_8 (tm 1) (tm 3) (tm 4) (tm 45) (tm 46) (tm 47) g  K) : codeL Try.prog (Ok Try.prog) (nd41 [1, 1, 1, 1, 0, 1]) ⟨tm, g⟩ (thenL (kj41_4  K) (en41 K)) := by
  refine block_i (b := nd41 [1, 1, 1, 1, 0, 1, 0]) (i := 0) (by kernel_rfl) ?_
  exact loop_glue (b := nd41 [1, 1, 1, 1, 0, 1, 0, 0]) (by kernel_rfl) (fun tm : Nat → LV => (tm 1, tm 3, tm 45, tm 46)) (fun tm : Nat → LV => (tm 4, tm 47)) (fun a s g N => L41_9 a.1 a.2.1 a.2.2.1 a.2.2.2 s.1 s.2 g N  K) (fun tm g R h => L41_9_ok R  K tm g h) tm g h

noncomputable def J41_3 (x1 x3 x4 : LV) (g : LHeap)  (K : LV → LHeap → Prop) : Prop :=
  vK (fieldAddrL 1 x1) fun t44 =>
  vK (loadV none t44 g) fun t45 =>
  oK (builtinL Try.prog .len [24] [t45] g) fun t46 g =>
  J41_8 x1 x3 x4 t45 t46 (.int .i64 (0)) g  K
abbrev kj41_3  (K : LV → LHeap → Prop) : LSt → Prop := fun st => J41_3 (st.tm 1) (st.tm 3) (st.tm 4) st.g  K
theorem J41_3_ok  (K : LV → LHeap → Prop) (tm : Nat → LV) (g : LHeap) (h : J41_3 (tm 1) (tm 3) (tm 4) g  K) : codeL Try.prog (Ok Try.prog) (nd41 [1, 1, 1, 1]) ⟨tm, g⟩ (en41 K) := by
  refine seq_i (a := nd41 [1, 1, 1, 1, 0]) (b := nd41 [1, 1, 1, 1, 1]) (k' := kj41_4  K) (by kernel_rfl) (fun st h => J41_4_ok  K st.tm st.g h) ?_
  refine seq_i (a := nd41 [1, 1, 1, 1, 0, 0]) (b := nd41 [1, 1, 1, 1, 0, 1]) (k' := kj41_8  K) (by kernel_rfl) (fun st h => J41_8_ok  K st.tm st.g h) ?_
  try unfold J41_3 at h
  unfold kj41_8
  generalize @J41_8 = Q41_8 at h ⊢
  unfold kj41_4
  generalize @J41_4 = Q41_4 at h ⊢
  refine code2_sound ok_mono _ _ _ ?_
  refine kmp ?_ h
  generalize Ok Try.prog = C
  unfold en41
  as_aux_lemma => kernel_rfl

noncomputable def J41_2 (x1 x3 : LV) (g : LHeap)  (K : LV → LHeap → Prop) : Prop :=
  vK (fieldAddrL 1 x1) fun t35 =>
  vK (loadV none t35 g) fun t36 =>
  oK (builtinL Try.prog .len [24] [t36] g) fun t37 g =>
  vK (fieldAddrL 2 x1) fun t38 =>
  vK (loadV none t38 g) fun t39 =>
  oK (builtinL Try.prog .len [25] [t39] g) fun t40 g =>
  vK (binL Try.prog .add 3 false t37 t40) fun t41 =>
  vK (binL Try.prog .mul 3 true (.int .i64 (4)) t41) fun t42 =>
  vK (binL Try.prog .add 3 true (.int .i64 (10)) t42) fun t43 =>
  J41_3 x1 x3 t43 g  K
abbrev kj41_2  (K : LV → LHeap → Prop) : LSt → Prop := fun st => J41_2 (st.tm 1) (st.tm 3) st.g  K
theorem J41_2_ok  (K : LV → LHeap → Prop) (tm : Nat → LV) (g : LHeap) (h : J41_2 (tm 1) (tm 3) g  K) : codeL Try.prog (Ok Try.prog) (nd41 [1, 1, 1]) ⟨tm, g⟩ (en41 K) := by
  refine seq_i (a := nd41 [1, 1, 1, 0]) (b := nd41 [1, 1, 1, 1]) (k' := kj41_3  K) (by kernel_rfl) (fun st h => J41_3_ok  K st.tm st.g h) ?_
  try unfold J41_2 at h
  unfold kj41_3
  generalize @J41_3 = Q41_3 at h ⊢
  refine code2_sound ok_mono _ _ _ ?_
  refine kmp ?_ h
  generalize Ok Try.prog = C
  unfold en41
  as_aux_lemma => kernel_rfl

noncomputable def J41_1 (x1 : LV) (g : LHeap)  (K : LV → LHeap → Prop) : Prop :=
  oK (newL (.agg [(.bool false), (.bool false), (.bool false), (.bool false), (.bool false), (.bool false), (.bool false), (.bool false), (.bool false), (.bool false), (.bool false), (.bool false), (.bool false), (.bool false), (.bool false), (.bool false), (.bool false), (.bool false), (.bool false), (.bool false), (.bool false), (.bool false), (.bool false), (.bool false), (.bool false), (.bool false), (.bool false), (.bool false), (.bool false), (.bool false), (.bool false), (.bool false), (.bool false), (.bool false), (.bool false), (.bool false), (.bool false), (.bool false), (.bool false), (.bool false), (.bool false), (.bool false), (.bool false), (.bool false), (.bool false), (.bool false), (.bool false), (.bool false), (.bool false), (.bool false), (.bool false), (.bool false), (.bool false), (.bool false), (.bool false), (.bool false), (.bool false), (.bool false), (.bool false), (.bool false), (.bool false), (.bool false), (.bool false), (.bool false), (.bool false), (.bool false), (.bool false), (.bool false), (.bool false), (.bool false), (.bool false), (.bool false), (.bool false), (.bool false), (.bool false), (.bool false), (.bool false), (.bool false), (.bool false), (.bool false), (.bool false), (.bool false), (.bool false), (.bool false), (.bool false), (.bool false), (.bool false), (.bool false), (.bool false), (.bool false), (.bool false), (.bool false), (.bool false), (.bool false), (.bool false), (.bool false), (.bool false), (.bool false), (.bool false), (.bool false), (.bool false), (.bool false), (.bool false), (.bool false), (.bool false), (.bool false), (.bool false), (.bool false), (.bool false), (.bool false), (.bool false), (.bool false), (.bool false), (.bool false), (.bool false), (.bool false), (.bool false), (.bool false), (.bool false), (.bool false), (.bool false), (.bool false), (.bool false), (.bool false), (.bool false), (.bool false), (.bool false), (.bool false)]) g) fun t3 g =>
  J41_2 x1 t3 g  K
abbrev kj41_1  (K : LV → LHeap → Prop) : LSt → Prop := fun st => J41_1 (st.tm 1) st.g  K
theorem J41_1_ok  (K : LV → LHeap → Prop) (tm : Nat → LV) (g : LHeap) (h : J41_1 (tm 1) g  K) : codeL Try.prog (Ok Try.prog) (nd41 [1, 1]) ⟨tm, g⟩ (en41 K) := by
  refine seq_i (a := nd41 [1, 1, 0]) (b := nd41 [1, 1, 1]) (k' := kj41_2  K) (by kernel_rfl) (fun st h => J41_2_ok  K st.tm st.g h) ?_
  try unfold J41_1 at h
  unfold kj41_2
  generalize @J41_2 = Q41_2 at h ⊢
  refine code2_sound ok_mono _ _ _ ?_
  refine kmp ?_ h
  generalize Ok Try.prog = C
  unfold en41
  as_aux_lemma => kernel_rfl

noncomputable def J41_0 (x1 : LV) (g : LHeap)  (K : LV → LHeap → Prop) : Prop :=
  vK (fieldAddrL 1 x1) fun t9 =>
  vK (loadV none t9 g) fun t10 =>
  oK (builtinL Try.prog .len [24] [t10] g) fun t11 g =>
  vK (binL Try.prog .gtr 3 true t11 (.int .i64 (16))) fun t12 =>
  gd t12 false g (fun K => vK (fieldAddrL 2 x1) fun v => K v g) fun t14 g =>
  gd t12 false g (fun K => vK (loadV none t14 g) fun v => K v g) fun t15 g =>
  gd t12 false g (fun K => oK (builtinL Try.prog .len [25] [t15] g) K) fun t16 g =>
  gd t12 false g (fun K => vK (binL Try.prog .gtr 3 true t16 (.int .i64 (16))) fun v => K v g) fun t17 g =>
  vK (pickL t12 (.bool true) t17) fun t18 =>
  gd t18 false g (fun K => vK (fieldAddrL 0 x1) fun v => K v g) fun t20 g =>
  gd t18 false g (fun K => vK (loadV none t20 g) fun v => K v g) fun t21 g =>
  gd t18 false g (fun K => vK (binL Try.prog .lss 3 true t21 (.int .i64 (0))) fun v => K v g) fun t22 g =>
  vK (pickL t18 (.bool true) t22) fun t23 =>
  gd t23 false g (fun K => vK (fieldAddrL 0 x1) fun v => K v g) fun t25 g =>
  gd t23 false g (fun K => vK (loadV none t25 g) fun v => K v g) fun t26 g =>
  gd t23 false g (fun K => vK (binL Try.prog .gtr 3 true t26 (.int .i64 (65535))) fun v => K v g) fun t27 g =>
  vK (pickL t23 (.bool true) t27) fun t28 =>
  gd t28 false g (fun K => vK (fieldAddrL 0 x1) fun v => K v g) fun t30 g =>
  gd t28 false g (fun K => vK (loadV none t30 g) fun v => K v g) fun t31 g =>
  gd t28 false g (fun K => vK (binL Try.prog .rem 3 true t31 (.int .i64 (4))) fun v => K v g) fun t32 g =>
  gd t28 false g (fun K => vK (binL Try.prog .neq 3 true t32 (.int .i64 (0))) fun v => K v g) fun t33 g =>
  vK (pickL t28 (.bool true) t33) fun t34 =>
  ifB t34 (
  K (.int .i64 (230)) g) (
  J41_1 x1 g  K)
abbrev kj41_0  (K : LV → LHeap → Prop) : LSt → Prop := fun st => J41_0 (st.tm 1) st.g  K
theorem J41_0_ok  (K : LV → LHeap → Prop) (tm : Nat → LV) (g : LHeap) (h : J41_0 (tm 1) g  K) : codeL Try.prog (Ok Try.prog) (nd41 [1]) ⟨tm, g⟩ (en41 K) := by
  refine seq_i (a := nd41 [1, 0]) (b := nd41 [1, 1]) (k' := kj41_1  K) (by kernel_rfl) (fun st h => J41_1_ok  K st.tm st.g h) ?_
  try unfold J41_0 at h
  unfold kj41_1
  generalize @J41_1 = Q41_1 at h ⊢
  refine code2_sound ok_mono _ _ _ ?_
  refine kmp ?_ h
  generalize Ok Try.prog = C
  unfold en41
  as_aux_lemma => kernel_rfl

noncomputable def F41 (x0 : LV) (g : LHeap) (K : LV → LHeap → Prop) : Prop :=
  oK (newL x0 g) fun t1 g =>
  J41_0 t1 g  K
theorem ok41 {x0 : LV} {g : LHeap} {K : LV → LHeap → Prop} (h : g.Wf → (∀ v ∈ ([x0] : List LV), ∀ b ∈ v.objs, b < g.next) → F41 x0 g K) : Ok Try.prog 41 [x0] g K := by
  refine ok_fw Try.mixed Try.func41 (by kernel_rfl) (by kernel_rfl) (c := nd41 []) (by kernel_rfl) fun wf lt => ?_
  rw [← en41_eq]
  replace h := h wf lt
  generalize hs : startL _ = tm
  replace h : F41 (tm 0) g K := by rw [← hs]; exact h
  refine seq_i (a := nd41 [0]) (b := nd41 [1]) (k' := kj41_0  K) (by kernel_rfl) (fun st h => J41_0_ok  K st.tm st.g h) ?_
  try unfold F41 at h
  unfold kj41_0
  generalize @J41_0 = Q41_0 at h ⊢
  refine code2_sound ok_mono _ _ _ ?_
  refine kmp ?_ h
  generalize Ok Try.prog = C
  unfold en41
  as_aux_lemma => kernel_rfl

/-! parapet/parapetref23.Check (120 slots) -/
noncomputable def en42 (K : LV → LHeap → Prop) : LEx → LSt → Prop := fun e st => match e with
  | .exit _ => False
  | _ => K (st.tm 2) st.g
theorem en42_eq (K : LV → LHeap → Prop) : en42 K = endL Try.prog Try.f42 K := by
  funext e st
  cases e <;> kernel_rfl
noncomputable def nd42 (p : List Nat) : Code := subC p (bodyC Try.prog 42)
noncomputable def J42_5 (x4 : LV) (g : LHeap)  (K : LV → LHeap → Prop) : Prop :=
  vK (binL Try.prog .gtr 3 true x4 (.int .i64 (16384))) fun t119 =>
  ifB t119 (
  K (.int .i64 (230)) g) (
  K (.int .i64 (0)) g)
abbrev kj42_5  (K : LV → LHeap → Prop) : LSt → Prop := fun st => J42_5 (st.tm 4) st.g  K
theorem J42_5_ok  (K : LV → LHeap → Prop) (tm : Nat → LV) (g : LHeap) (h : J42_5 (tm 4) g  K) : codeL Try.prog (Ok Try.prog) (nd42 [1, 1, 1, 1, 1, 1]) ⟨tm, g⟩ (en42 K) := by
  try unfold J42_5 at h
  refine code2_sound ok_mono _ _ _ ?_
  refine kmp ?_ h
  generalize Ok Try.prog = C
  unfold en42
  as_aux_lemma => kernel_rfl

noncomputable def L42_7 (x1 x3 x4 : LV) (x7 : LV) (g : LHeap) (N7 : LV → LHeap → Prop) (K : LV → LHeap → Prop) : Prop :=
  vK (fieldAddrL 2 x1) fun t97 =>
  vK (loadV none t97 g) fun t98 =>
  oK (builtinL Try.prog .len [25] [t98] g) fun t99 g =>
  vK (binL Try.prog .lss 3 false x7 t99) fun t100 =>
  ifB t100 (
  vK (fieldAddrL 2 x1) fun t104 =>
  vK (loadV none t104 g) fun t105 =>
  vK (ixAddrL none 2 t105 x7) fun t107 =>
  vK (fieldAddrL 0 t107) fun t108 =>
  vK (loadV none t108 g) fun t109 =>
  vK (fieldAddrL 2 x1) fun t110 =>
  vK (loadV none t110 g) fun t111 =>
  vK (ixAddrL none 2 t111 x7) fun t113 =>
  vK (fieldAddrL 1 t113) fun t114 =>
  vK (loadV none t114 g) fun t115 =>
  ((Ok Try.prog 70 [x3, t109, t115] g fun t116 g =>
  
  vK (unL .not t116) fun t117 =>
  ifB t117 (
  K (.int .i64 (230)) g) (
  vK (binL Try.prog .add 3 true x7 (.int .i64 (1))) fun t102 =>
  N7 t102 g)) ∧ True)) (
  J42_5 x4 g  K)
theorem L42_7_ok (R7 : LV × LV × LV → LV → LHeap → Prop) (K : LV → LHeap → Prop) (tm : Nat → LV) (g : LHeap) (h : L42_7 (tm 1) (tm 3) (tm 4) (tm 7) g (fun s g => R7 ((tm 1), (tm 3), (tm 4)) s g) K) : codeL Try.prog (Ok Try.prog) (nd42 [1, 1, 1, 1, 1, 0, 1, 0, 0]) ⟨tm, g⟩ (roundK (fun tm : Nat → LV => (tm 1, tm 3, tm 4)) (fun tm : Nat → LV => tm 7) R7 (exitL 2 (thenL (kj42_5  K) (en42 K)))) := by
  try unfold L42_7 at h
  unfold kj42_5
  generalize @J42_5 = Q42_5 at h ⊢
  refine code3_sound ok_mono (pl := [(15, (.lt 0 false (.lt 1 false (.lt 2 false (.lt 3 false (.lt 4 false (.lt 5 false (.lt 6 false (.lt 7 false (.lt 8 false (.lt 9 false (.lt 10 false (.lt 11 false (.lt 12 false (.hv 13 (.lt 14 false .nil) .nil)))))))))))))))]) _ _ _ (by kernel_rfl) ?_
  refine kmp ?_ h
  generalize Ok Try.prog = C
  unfold en42
  as_aux_lemma => kernel_rfl

noncomputable def J42_6 (x1 x3 x4 x7 : LV) (g : LHeap)  (K : LV → LHeap → Prop) : Prop :=
  loopP (fun s g N => L42_7 x1 x3 x4 s g N  K) x7 g
abbrev kj42_6  (K : LV → LHeap → Prop) : LSt → Prop := fun st => J42_6 (st.tm 1) (st.tm 3) (st.tm 4) (st.tm 7) st.g  K
theorem J42_6_ok  (K : LV → LHeap → Prop) (tm : Nat → LV) (g : LHeap) (h : J42_6 (tm 1) (tm 3) (tm 4) (tm 7) g  K) : codeL Try.prog (Ok Try.prog) (nd42 [1, 1, 1, 1, 1, 0, 1]) ⟨tm, g⟩ (thenL (kj42_5  K) (en42 K)) := by
  refine block_i (b := nd42 [1, 1, 1, 1, 1, 0, 1, 0]) (i := 2) (by kernel_rfl) ?_
  exact loop_glue (b := nd42 [1, 1, 1, 1, 1, 0, 1, 0, 0]) (by kernel_rfl) (fun tm : Nat → LV => (tm 1, tm 3, tm 4)) (fun tm : Nat → LV => tm 7) (fun a s g N => L42_7 a.1 a.2.1 a.2.2 s g N  K) (fun tm g R h => L42_7_ok R  K tm g h) tm g h

noncomputable def J42_4 (x1 x3 x4 : LV) (g : LHeap)  (K : LV → LHeap → Prop) : Prop :=
  J42_6 x1 x3 x4 (.int .i64 (0)) g  K
abbrev kj42_4  (K : LV → LHeap → Prop) : LSt → Prop := fun st => J42_4 (st.tm 1) (st.tm 3) (st.tm 4) st.g  K
theorem J42_4_ok  (K : LV → LHeap → Prop) (tm : Nat → LV) (g : LHeap) (h : J42_4 (tm 1) (tm 3) (tm 4) g  K) : codeL Try.prog (Ok Try.prog) (nd42 [1, 1, 1, 1, 1]) ⟨tm, g⟩ (en42 K) := by
  refine seq_i (a := nd42 [1, 1, 1, 1, 1, 0]) (b := nd42 [1, 1, 1, 1, 1, 1]) (k' := kj42_5  K) (by kernel_rfl) (fun st h => J42_5_ok  K st.tm st.g h) ?_
  refine seq_i (a := nd42 [1, 1, 1, 1, 1, 0, 0]) (b := nd42 [1, 1, 1, 1, 1, 0, 1]) (k' := kj42_6  K) (by kernel_rfl) (fun st h => J42_6_ok  K st.tm st.g h) ?_
  try unfold J42_4 at h
  unfold kj42_6
  generalize @J42_6 = Q42_6 at h ⊢
  unfold kj42_5
  generalize @J42_5 = Q42_5 at h ⊢
  refine code2_sound ok_mono _ _ _ ?_
  refine kmp ?_ h
  generalize Ok Try.prog = C
  unfold en42
  as_aux_lemma => kernel_rfl

noncomputable def L42_9 (x1 x3 : LV) (x4 x5 : LV) (g : LHeap) (N9 : LV × LV → LHeap → Prop) (K : LV → LHeap → Prop) : Prop :=
  vK (fieldAddrL 1 x1) fun t46 =>
  vK (loadV none t46 g) fun t47 =>
  oK (builtinL Try.prog .len [24] [t47] g) fun t48 g =>
  vK (binL Try.prog .lss 3 false x5 t48) fun t49 =>
  ifB t49 (
  vK (fieldAddrL 1 x1) fun t52 =>
  vK (loadV none t52 g) fun t53 =>
  vK (ixAddrL none 2 t53 x5) fun t55 =>
  vK (loadV (some 2) t55 g) fun t56 =>
  oK (newL (.agg [(.int .i64 (0)), .nils]) g) fun t6 g =>
  gK (storeV 2 t6 t56 g) fun g =>
  vK (fieldAddrL 0 t6) fun t57 =>
  vK (loadV none t57 g) fun t58 =>
  vK (binL Try.prog .lss 3 true t58 (.int .i64 (0))) fun t59 =>
  gd t59 false g (fun K => vK (fieldAddrL 0 t6) fun v => K v g) fun t61 g =>
  gd t59 false g (fun K => vK (loadV none t61 g) fun v => K v g) fun t62 g =>
  gd t59 false g (fun K => vK (binL Try.prog .rem 3 true t62 (.int .i64 (256))) fun v => K v g) fun t63 g =>
  gd t59 false g (fun K => vK (binL Try.prog .neq 3 true t63 (.int .i64 (0))) fun v => K v g) fun t64 g =>
  vK (pickL t59 (.bool true) t64) fun t65 =>
  gd t65 false g (fun K => vK (fieldAddrL 1 t6) fun v => K v g) fun t67 g =>
  gd t65 false g (fun K => vK (loadV none t67 g) fun v => K v g) fun t68 g =>
  gd t65 false g (fun K => oK (builtinL Try.prog .len [23] [t68] g) K) fun t69 g =>
  gd t65 false g (fun K => vK (binL Try.prog .lss 3 true t69 (.int .i64 (1))) fun v => K v g) fun t70 g =>
  vK (pickL t65 (.bool true) t70) fun t71 =>
  gd t71 false g (fun K => vK (fieldAddrL 1 t6) fun v => K v g) fun t73 g =>
  gd t71 false g (fun K => vK (loadV none t73 g) fun v => K v g) fun t74 g =>
  gd t71 false g (fun K => oK (builtinL Try.prog .len [23] [t74] g) K) fun t75 g =>
  gd t71 false g (fun K => vK (binL Try.prog .gtr 3 true t75 (.int .i64 (16384))) fun v => K v g) fun t76 g =>
  vK (pickL t71 (.bool true) t76) fun t77 =>
  gd t77 false g (fun K => K x3 g) fun t79 g =>
  gd t77 false g (fun K => vK (fieldAddrL 0 t6) fun v => K v g) fun t80 g =>
  gd t77 false g (fun K => vK (loadV none t80 g) fun v => K v g) fun t81 g =>
  gd t77 false g (fun K => vK (binL Try.prog .quo 3 true t81 (.int .i64 (256))) fun v => K v g) fun t82 g =>
  gd t77 false g (fun K => vK (fieldAddrL 1 t6) fun v => K v g) fun t83 g =>
  gd t77 false g (fun K => vK (loadV none t83 g) fun v => K v g) fun t84 g =>
  gd t77 false g (fun K => oK (builtinL Try.prog .len [23] [t84] g) K) fun t85 g =>
  gd t77 false g (fun K => vK (binL Try.prog .add 3 true t85 (.int .i64 (255))) fun v => K v g) fun t86 g =>
  gd t77 false g (fun K => vK (binL Try.prog .quo 3 true t86 (.int .i64 (256))) fun v => K v g) fun t87 g =>
  gd t77 false g (fun K => Ok Try.prog 70 [t79, t82, t87] g K) fun t88 g =>
  gd t77 false g (fun K => vK (unL .not t88) fun v => K v g) fun t89 g =>
  vK (pickL t77 (.bool true) t89) fun t90 =>
  ifB t90 (
  K (.int .i64 (230)) g) (
  vK (fieldAddrL 1 t6) fun t92 =>
  vK (loadV none t92 g) fun t93 =>
  oK (builtinL Try.prog .len [23] [t93] g) fun t94 g =>
  vK (binL Try.prog .add 3 false x4 t94) fun t95 =>
  vK (binL Try.prog .add 3 true x5 (.int .i64 (1))) fun t51 =>
  N9 (t95, t51) g)) (
  J42_4 x1 x3 x4 g  K)
theorem L42_9_ok (R9 : LV × LV → LV × LV → LHeap → Prop) (K : LV → LHeap → Prop) (tm : Nat → LV) (g : LHeap) (h : L42_9 (tm 1) (tm 3) (tm 4) (tm 5) g (fun s g => R9 ((tm 1), (tm 3)) s g) K) : codeL Try.prog (Ok Try.prog) (nd42 [1, 1, 1, 1, 0, 1, 0, 0]) ⟨tm, g⟩ (roundK (fun tm : Nat → LV => (tm 1, tm 3)) (fun tm : Nat → LV => (tm 4, tm 5)) R9 (exitL 0 (thenL (kj42_4  K) (en42 K)))) := by
  try unfold L42_9 at h
  unfold kj42_4
  generalize @J42_4 = Q42_4 at h ⊢
  refine code2_sound ok_mono _ _ _ ?_
  refine kmp ?_ h
  generalize Ok Try.prog = C
  unfold en42
  as_aux_lemma => kernel_rfl

noncomputable def J42_8 (x1 x3 x4 x5 : LV) (g : LHeap)  (K : LV → LHeap → Prop) : Prop :=
  loopP (fun s g N => L42_9 x1 x3 s.1 s.2 g N  K) (x4, x5) g
abbrev kj42_8  (K : LV → LHeap → Prop) : LSt → Prop := fun st => J42_8 (st.tm 1) (st.tm 3) (st.tm 4) (st.tm 5) st.g  K
theorem J42_8_ok  (K : LV → LHeap → Prop) (tm : Nat → LV) (g : LHeap) (h : J42_8 (tm 1) (tm 3) (tm 4) (tm 5) g  K) : codeL Try.prog (Ok Try.prog) (nd42 [1, 1, 1, 1, 0, 1]) ⟨tm, g⟩ (thenL (kj42_4  K) (en42 K)) := by
  refine block_i (b := nd42 [1, 1, 1, 1, 0, 1, 0]) (i := 0) (by kernel_rfl) ?_
  exact loop_glue (b := nd42 [1, 1, 1, 1, 0, 1, 0, 0]) (by kernel_rfl) (fun tm : Nat → LV => (tm 1, tm 3)) (fun tm : Nat → LV => (tm 4, tm 5)) (fun a s g N => L42_9 a.1 a.2 s.1 s.2 g N  K) (fun tm g R h => L42_9_ok R  K tm g h) tm g h

noncomputable def J42_3 (x1 x3 x4 : LV) (g : LHeap)  (K : LV → LHeap → Prop) : Prop :=
  J42_8 x1 x3 x4 (.int .i64 (0)) g  K
abbrev kj42_3  (K : LV → LHeap → Prop) : LSt → Prop := fun st => J42_3 (st.tm 1) (st.tm 3) (st.tm 4) st.g  K
theorem J42_3_ok  (K : LV → LHeap → Prop) (tm : Nat → LV) (g : LHeap) (h : J42_3 (tm 1) (tm 3) (tm 4) g  K) : codeL Try.prog (Ok Try.prog) (nd42 [1, 1, 1, 1]) ⟨tm, g⟩ (en42 K) := by
  refine seq_i (a := nd42 [1, 1, 1, 1, 0]) (b := nd42 [1, 1, 1, 1, 1]) (k' := kj42_4  K) (by kernel_rfl) (fun st h => J42_4_ok  K st.tm st.g h) ?_
  refine seq_i (a := nd42 [1, 1, 1, 1, 0, 0]) (b := nd42 [1, 1, 1, 1, 0, 1]) (k' := kj42_8  K) (by kernel_rfl) (fun st h => J42_8_ok  K st.tm st.g h) ?_
  try unfold J42_3 at h
  unfold kj42_8
  generalize @J42_8 = Q42_8 at h ⊢
  unfold kj42_4
  generalize @J42_4 = Q42_4 at h ⊢
  refine code2_sound ok_mono _ _ _ ?_
  refine kmp ?_ h
  generalize Ok Try.prog = C
  unfold en42
  as_aux_lemma => kernel_rfl

noncomputable def J42_2 (x1 x3 : LV) (g : LHeap)  (K : LV → LHeap → Prop) : Prop :=
  vK (fieldAddrL 1 x1) fun t35 =>
  vK (loadV none t35 g) fun t36 =>
  oK (builtinL Try.prog .len [24] [t36] g) fun t37 g =>
  vK (binL Try.prog .mul 3 true (.int .i64 (4)) t37) fun t38 =>
  vK (binL Try.prog .add 3 true (.int .i64 (10)) t38) fun t39 =>
  vK (fieldAddrL 2 x1) fun t40 =>
  vK (loadV none t40 g) fun t41 =>
  oK (builtinL Try.prog .len [25] [t41] g) fun t42 g =>
  vK (binL Try.prog .mul 3 true (.int .i64 (4)) t42) fun t43 =>
  vK (binL Try.prog .add 3 false t39 t43) fun t44 =>
  J42_3 x1 x3 t44 g  K
abbrev kj42_2  (K : LV → LHeap → Prop) : LSt → Prop := fun st => J42_2 (st.tm 1) (st.tm 3) st.g  K
theorem J42_2_ok  (K : LV → LHeap → Prop) (tm : Nat → LV) (g : LHeap) (h : J42_2 (tm 1) (tm 3) g  K) : codeL Try.prog (Ok Try.prog) (nd42 [1, 1, 1]) ⟨tm, g⟩ (en42 K) := by
  refine seq_i (a := nd42 [1, 1, 1, 0]) (b := nd42 [1, 1, 1, 1]) (k' := kj42_3  K) (by kernel_rfl) (fun st h => J42_3_ok  K st.tm st.g h) ?_
  try unfold J42_2 at h
  unfold kj42_3
  generalize @J42_3 = Q42_3 at h ⊢
  refine code2_sound ok_mono _ _ _ ?_
  refine kmp ?_ h
  generalize Ok Try.prog = C
  unfold en42
  as_aux_lemma => kernel_rfl

noncomputable def J42_1 (x1 : LV) (g : LHeap)  (K : LV → LHeap → Prop) : Prop :=
  oK (makeSliceL Try.prog 120 (.int .i64 (128)) (.int .i64 (128)) g) fun t34 g =>
  J42_2 x1 t34 g  K
abbrev kj42_1  (K : LV → LHeap → Prop) : LSt → Prop := fun st => J42_1 (st.tm 1) st.g  K
theorem J42_1_ok  (K : LV → LHeap → Prop) (tm : Nat → LV) (g : LHeap) (h : J42_1 (tm 1) g  K) : codeL Try.prog (Ok Try.prog) (nd42 [1, 1]) ⟨tm, g⟩ (en42 K) := by
  refine seq_i (a := nd42 [1, 1, 0]) (b := nd42 [1, 1, 1]) (k' := kj42_2  K) (by kernel_rfl) (fun st h => J42_2_ok  K st.tm st.g h) ?_
  try unfold J42_1 at h
  unfold kj42_2
  generalize @J42_2 = Q42_2 at h ⊢
  refine code2_sound ok_mono _ _ _ ?_
  refine kmp ?_ h
  generalize Ok Try.prog = C
  unfold en42
  as_aux_lemma => kernel_rfl

noncomputable def J42_0 (x1 : LV) (g : LHeap)  (K : LV → LHeap → Prop) : Prop :=
  vK (fieldAddrL 1 x1) fun t8 =>
  vK (loadV none t8 g) fun t9 =>
  oK (builtinL Try.prog .len [24] [t9] g) fun t10 g =>
  vK (binL Try.prog .gtr 3 true t10 (.int .i64 (16))) fun t11 =>
  gd t11 false g (fun K => vK (fieldAddrL 2 x1) fun v => K v g) fun t13 g =>
  gd t11 false g (fun K => vK (loadV none t13 g) fun v => K v g) fun t14 g =>
  gd t11 false g (fun K => oK (builtinL Try.prog .len [25] [t14] g) K) fun t15 g =>
  gd t11 false g (fun K => vK (binL Try.prog .gtr 3 true t15 (.int .i64 (16))) fun v => K v g) fun t16 g =>
  vK (pickL t11 (.bool true) t16) fun t17 =>
  gd t17 false g (fun K => vK (fieldAddrL 0 x1) fun v => K v g) fun t19 g =>
  gd t17 false g (fun K => vK (loadV none t19 g) fun v => K v g) fun t20 g =>
  gd t17 false g (fun K => vK (binL Try.prog .lss 3 true t20 (.int .i64 (0))) fun v => K v g) fun t21 g =>
  vK (pickL t17 (.bool true) t21) fun t22 =>
  gd t22 false g (fun K => vK (fieldAddrL 0 x1) fun v => K v g) fun t24 g =>
  gd t22 false g (fun K => vK (loadV none t24 g) fun v => K v g) fun t25 g =>
  gd t22 false g (fun K => vK (binL Try.prog .gtr 3 true t25 (.int .i64 (65535))) fun v => K v g) fun t26 g =>
  vK (pickL t22 (.bool true) t26) fun t27 =>
  gd t27 false g (fun K => vK (fieldAddrL 0 x1) fun v => K v g) fun t29 g =>
  gd t27 false g (fun K => vK (loadV none t29 g) fun v => K v g) fun t30 g =>
  gd t27 false g (fun K => vK (binL Try.prog .rem 3 true t30 (.int .i64 (4))) fun v => K v g) fun t31 g =>
  gd t27 false g (fun K => vK (binL Try.prog .neq 3 true t31 (.int .i64 (0))) fun v => K v g) fun t32 g =>
  vK (pickL t27 (.bool true) t32) fun t33 =>
  ifB t33 (
  K (.int .i64 (230)) g) (
  J42_1 x1 g  K)
abbrev kj42_0  (K : LV → LHeap → Prop) : LSt → Prop := fun st => J42_0 (st.tm 1) st.g  K
theorem J42_0_ok  (K : LV → LHeap → Prop) (tm : Nat → LV) (g : LHeap) (h : J42_0 (tm 1) g  K) : codeL Try.prog (Ok Try.prog) (nd42 [1]) ⟨tm, g⟩ (en42 K) := by
  refine seq_i (a := nd42 [1, 0]) (b := nd42 [1, 1]) (k' := kj42_1  K) (by kernel_rfl) (fun st h => J42_1_ok  K st.tm st.g h) ?_
  try unfold J42_0 at h
  unfold kj42_1
  generalize @J42_1 = Q42_1 at h ⊢
  refine code2_sound ok_mono _ _ _ ?_
  refine kmp ?_ h
  generalize Ok Try.prog = C
  unfold en42
  as_aux_lemma => kernel_rfl

noncomputable def F42 (x0 : LV) (g : LHeap) (K : LV → LHeap → Prop) : Prop :=
  oK (newL x0 g) fun t1 g =>
  J42_0 t1 g  K
theorem ok42 {x0 : LV} {g : LHeap} {K : LV → LHeap → Prop} (h : g.Wf → (∀ v ∈ ([x0] : List LV), ∀ b ∈ v.objs, b < g.next) → F42 x0 g K) : Ok Try.prog 42 [x0] g K := by
  refine ok_fw Try.mixed Try.func42 (by kernel_rfl) (by kernel_rfl) (c := nd42 []) (by kernel_rfl) fun wf lt => ?_
  rw [← en42_eq]
  replace h := h wf lt
  generalize hs : startL _ = tm
  replace h : F42 (tm 0) g K := by rw [← hs]; exact h
  refine seq_i (a := nd42 [0]) (b := nd42 [1]) (k' := kj42_0  K) (by kernel_rfl) (fun st h => J42_0_ok  K st.tm st.g h) ?_
  try unfold F42 at h
  unfold kj42_0
  generalize @J42_0 = Q42_0 at h ⊢
  refine code2_sound ok_mono _ _ _ ?_
  refine kmp ?_ h
  generalize Ok Try.prog = C
  unfold en42
  as_aux_lemma => kernel_rfl

/-! parapet/image.Make$1 (20 slots) -/
noncomputable def en58 (K : LV → LHeap → Prop) : LEx → LSt → Prop := fun e st => match e with
  | .exit _ => False
  | _ => K (.tuple []) st.g
theorem en58_eq (K : LV → LHeap → Prop) : en58 K = endL Try.prog Try.f58 K := by
  funext e st
  cases e <;> kernel_rfl
noncomputable def nd58 (p : List Nat) : Code := subC p (bodyC Try.prog 58)
noncomputable def L58_1 (x1 x5 x6 : LV) (x7 : LV) (g : LHeap) (N1 : LV → LHeap → Prop) (K : LV → LHeap → Prop) : Prop :=
  vK (binL Try.prog .lss 3 false x7 x6) fun t8 =>
  ifB t8 (
  vK (ixAddrL none 1 x5 x7) fun t9 =>
  vK (loadV none t9 g) fun t10 =>
  vK (loadV none x1 g) fun t11 =>
  oK (convL Try.prog 3 5 t10 g) fun t13 g =>
  vK (binL Try.prog .shr 3 true t10 (.int .u64 (8))) fun t15 =>
  oK (convL Try.prog 3 5 t15 g) fun t16 g =>
  oK (buildSliceL Try.prog 23 2 [(0, t13), (1, t16)] g) fun t17 g =>
  oK (builtinL Try.prog .append [23, 23] [t11, t17] g) fun t18 g =>
  gK (storeV 1 x1 t18 g) fun g =>
  vK (binL Try.prog .add 3 true x7 (.int .i64 (1))) fun t19 =>
  N1 t19 g) (
  K (.tuple []) g)
theorem L58_1_ok (R1 : LV × LV × LV → LV → LHeap → Prop) (K : LV → LHeap → Prop) (tm : Nat → LV) (g : LHeap) (h : L58_1 (tm 1) (tm 5) (tm 6) (tm 7) g (fun s g => R1 ((tm 1), (tm 5), (tm 6)) s g) K) : codeL Try.prog (Ok Try.prog) (nd58 [1, 0, 0]) ⟨tm, g⟩ (roundK (fun tm : Nat → LV => (tm 1, tm 5, tm 6)) (fun tm : Nat → LV => tm 7) R1 (exitL 0 (en58 K))) := by
  try unfold L58_1 at h
  refine code2_sound ok_mono _ _ _ ?_
  refine kmp ?_ h
  generalize Ok Try.prog = C
  unfold en58
  as_aux_lemma => kernel_rfl

noncomputable def J58_0 (x1 x5 x6 x7 : LV) (g : LHeap)  (K : LV → LHeap → Prop) : Prop :=
  loopP (fun s g N => L58_1 x1 x5 x6 s g N  K) x7 g
abbrev kj58_0  (K : LV → LHeap → Prop) : LSt → Prop := fun st => J58_0 (st.tm 1) (st.tm 5) (st.tm 6) (st.tm 7) st.g  K
theorem J58_0_ok  (K : LV → LHeap → Prop) (tm : Nat → LV) (g : LHeap) (h : J58_0 (tm 1) (tm 5) (tm 6) (tm 7) g  K) : codeL Try.prog (Ok Try.prog) (nd58 [1]) ⟨tm, g⟩ (en58 K) := by
  refine block_i (b := nd58 [1, 0]) (i := 0) (by kernel_rfl) ?_
  exact loop_glue (b := nd58 [1, 0, 0]) (by kernel_rfl) (fun tm : Nat → LV => (tm 1, tm 5, tm 6)) (fun tm : Nat → LV => tm 7) (fun a s g N => L58_1 a.1 a.2.1 a.2.2 s g N  K) (fun tm g R h => L58_1_ok R  K tm g h) tm g h

noncomputable def F58 (x0 x1 : LV) (g : LHeap) (K : LV → LHeap → Prop) : Prop :=
  oK (builtinL Try.prog .len [51] [x0] g) fun t6 g =>
  J58_0 x1 x0 t6 (.int .i64 (0)) g  K
theorem ok58 {x0 x1 : LV} {g : LHeap} {K : LV → LHeap → Prop} (h : g.Wf → (∀ v ∈ ([x0, x1] : List LV), ∀ b ∈ v.objs, b < g.next) → F58 x0 x1 g K) : Ok Try.prog 58 [x0, x1] g K := by
  refine ok_fw Try.mixed Try.func58 (by kernel_rfl) (by kernel_rfl) (c := nd58 []) (by kernel_rfl) fun wf lt => ?_
  rw [← en58_eq]
  replace h := h wf lt
  generalize hs : startL _ = tm
  replace h : F58 (tm 0) (tm 1) g K := by rw [← hs]; exact h
  refine seq_i (a := nd58 [0]) (b := nd58 [1]) (k' := kj58_0  K) (by kernel_rfl) (fun st h => J58_0_ok  K st.tm st.g h) ?_
  try unfold F58 at h
  unfold kj58_0
  generalize @J58_0 = Q58_0 at h ⊢
  refine code2_sound ok_mono _ _ _ ?_
  refine kmp ?_ h
  generalize Ok Try.prog = C
  unfold en58
  as_aux_lemma => kernel_rfl

/-! parapet/image.Make (76 slots) -/
noncomputable def en18 (K : LV → LHeap → Prop) : LEx → LSt → Prop := fun e st => match e with
  | .exit _ => False
  | _ => K (.tuple [(st.tm 2), (st.tm 3)]) st.g
theorem en18_eq (K : LV → LHeap → Prop) : en18 K = endL Try.prog Try.f18 K := by
  funext e st
  cases e <;> kernel_rfl
noncomputable def nd18 (p : List Nat) : Code := subC p (bodyC Try.prog 18)
noncomputable def J18_7 (x5 : LV) (g : LHeap)  (K : LV → LHeap → Prop) : Prop :=
  vK (loadV none x5 g) fun t75 =>
  K (.tuple [t75, (.int .i64 (0))]) g
abbrev kj18_7  (K : LV → LHeap → Prop) : LSt → Prop := fun st => J18_7 (st.tm 5) st.g  K
theorem J18_7_ok  (K : LV → LHeap → Prop) (tm : Nat → LV) (g : LHeap) (h : J18_7 (tm 5) g  K) : codeL Try.prog (Ok Try.prog) (nd18 [1, 1, 1, 1, 1, 1, 1, 1]) ⟨tm, g⟩ (en18 K) := by
  try unfold J18_7 at h
  refine code2_sound ok_mono _ _ _ ?_
  refine kmp ?_ h
  generalize Ok Try.prog = C
  unfold en18
  as_aux_lemma => kernel_rfl

noncomputable def L18_9 (x5 x64 x65 : LV) (x66 : LV) (g : LHeap) (N9 : LV → LHeap → Prop) (K : LV → LHeap → Prop) : Prop :=
  vK (binL Try.prog .lss 3 false x66 x65) fun t67 =>
  ifB t67 (
  vK (ixAddrL none 2 x64 x66) fun t68 =>
  vK (loadV (some 2) t68 g) fun t69 =>
  oK (newL (.agg [(.int .i64 (0)), .nils]) g) fun t12 g =>
  gK (storeV 2 t12 t69 g) fun g =>
  vK (loadV none x5 g) fun t70 =>
  vK (fieldAddrL 1 t12) fun t71 =>
  vK (loadV none t71 g) fun t72 =>
  oK (builtinL Try.prog .append [23, 23] [t70, t72] g) fun t73 g =>
  gK (storeV 1 x5 t73 g) fun g =>
  vK (binL Try.prog .add 3 true x66 (.int .i64 (1))) fun t74 =>
  N9 t74 g) (
  J18_7 x5 g  K)
theorem L18_9_ok (R9 : LV × LV × LV → LV → LHeap → Prop) (K : LV → LHeap → Prop) (tm : Nat → LV) (g : LHeap) (h : L18_9 (tm 5) (tm 64) (tm 65) (tm 66) g (fun s g => R9 ((tm 5), (tm 64), (tm 65)) s g) K) : codeL Try.prog (Ok Try.prog) (nd18 [1, 1, 1, 1, 1, 1, 1, 0, 1, 0, 0]) ⟨tm, g⟩ (roundK (fun tm : Nat → LV => (tm 5, tm 64, tm 65)) (fun tm : Nat → LV => tm 66) R9 (exitL 4 (thenL (kj18_7  K) (en18 K)))) := by
  try unfold L18_9 at h
  unfold kj18_7
  generalize @J18_7 = Q18_7 at h ⊢
  refine code2_sound ok_mono _ _ _ ?_
  refine kmp ?_ h
  generalize Ok Try.prog = C
  unfold en18
  as_aux_lemma => kernel_rfl

noncomputable def J18_8 (x5 x64 x65 x66 : LV) (g : LHeap)  (K : LV → LHeap → Prop) : Prop :=
  loopP (fun s g N => L18_9 x5 x64 x65 s g N  K) x66 g
abbrev kj18_8  (K : LV → LHeap → Prop) : LSt → Prop := fun st => J18_8 (st.tm 5) (st.tm 64) (st.tm 65) (st.tm 66) st.g  K
theorem J18_8_ok  (K : LV → LHeap → Prop) (tm : Nat → LV) (g : LHeap) (h : J18_8 (tm 5) (tm 64) (tm 65) (tm 66) g  K) : codeL Try.prog (Ok Try.prog) (nd18 [1, 1, 1, 1, 1, 1, 1, 0, 1]) ⟨tm, g⟩ (thenL (kj18_7  K) (en18 K)) := by
  refine block_i (b := nd18 [1, 1, 1, 1, 1, 1, 1, 0, 1, 0]) (i := 4) (by kernel_rfl) ?_
  exact loop_glue (b := nd18 [1, 1, 1, 1, 1, 1, 1, 0, 1, 0, 0]) (by kernel_rfl) (fun tm : Nat → LV => (tm 5, tm 64, tm 65)) (fun tm : Nat → LV => tm 66) (fun a s g N => L18_9 a.1 a.2.1 a.2.2 s g N  K) (fun tm g R h => L18_9_ok R  K tm g h) tm g h

noncomputable def J18_6 (x1 x5 : LV) (g : LHeap)  (K : LV → LHeap → Prop) : Prop :=
  vK (fieldAddrL 1 x1) fun t63 =>
  vK (loadV none t63 g) fun t64 =>
  oK (builtinL Try.prog .len [24] [t64] g) fun t65 g =>
  J18_8 x5 t64 t65 (.int .i64 (0)) g  K
abbrev kj18_6  (K : LV → LHeap → Prop) : LSt → Prop := fun st => J18_6 (st.tm 1) (st.tm 5) st.g  K
theorem J18_6_ok  (K : LV → LHeap → Prop) (tm : Nat → LV) (g : LHeap) (h : J18_6 (tm 1) (tm 5) g  K) : codeL Try.prog (Ok Try.prog) (nd18 [1, 1, 1, 1, 1, 1, 1]) ⟨tm, g⟩ (en18 K) := by
  refine seq_i (a := nd18 [1, 1, 1, 1, 1, 1, 1, 0]) (b := nd18 [1, 1, 1, 1, 1, 1, 1, 1]) (k' := kj18_7  K) (by kernel_rfl) (fun st h => J18_7_ok  K st.tm st.g h) ?_
  refine seq_i (a := nd18 [1, 1, 1, 1, 1, 1, 1, 0, 0]) (b := nd18 [1, 1, 1, 1, 1, 1, 1, 0, 1]) (k' := kj18_8  K) (by kernel_rfl) (fun st h => J18_8_ok  K st.tm st.g h) ?_
  try unfold J18_6 at h
  unfold kj18_8
  generalize @J18_8 = Q18_8 at h ⊢
  unfold kj18_7
  generalize @J18_7 = Q18_7 at h ⊢
  refine code2_sound ok_mono _ _ _ ?_
  refine kmp ?_ h
  generalize Ok Try.prog = C
  unfold en18
  as_aux_lemma => kernel_rfl

noncomputable def L18_11 (x1 x5 x6 x49 x50 : LV) (x51 : LV) (g : LHeap) (N11 : LV → LHeap → Prop) (K : LV → LHeap → Prop) : Prop :=
  vK (binL Try.prog .lss 3 false x51 x50) fun t52 =>
  ifB t52 (
  vK (ixAddrL none 2 x49 x51) fun t53 =>
  vK (loadV (some 2) t53 g) fun t54 =>
  oK (newL (.agg [(.int .i64 (0)), (.int .i64 (0))]) g) fun t10 g =>
  gK (storeV 2 t10 t54 g) fun g =>
  vK (fieldAddrL 0 t10) fun t56 =>
  vK (loadV none t56 g) fun t57 =>
  vK (fieldAddrL 1 t10) fun t58 =>
  vK (loadV none t58 g) fun t59 =>
  oK (buildSliceL Try.prog 51 2 [(0, t57), (1, t59)] g) fun t60 g =>
  callV Try.prog (Ok Try.prog) x6 [t60] g fun t61 g =>
  vK (binL Try.prog .add 3 true x51 (.int .i64 (1))) fun t62 =>
  N11 t62 g) (
  J18_6 x1 x5 g  K)
theorem L18_11_ok (R11 : LV × LV × LV × LV × LV → LV → LHeap → Prop) (K : LV → LHeap → Prop) (tm : Nat → LV) (g : LHeap) (h : L18_11 (tm 1) (tm 5) (tm 6) (tm 49) (tm 50) (tm 51) g (fun s g => R11 ((tm 1), (tm 5), (tm 6), (tm 49), (tm 50)) s g) K) : codeL Try.prog (Ok Try.prog) (nd18 [1, 1, 1, 1, 1, 1, 0, 1, 0, 0]) ⟨tm, g⟩ (roundK (fun tm : Nat → LV => (tm 1, tm 5, tm 6, tm 49, tm 50)) (fun tm : Nat → LV => tm 51) R11 (exitL 2 (thenL (kj18_6  K) (en18 K)))) := by
  try unfold L18_11 at h
  unfold kj18_6
  generalize @J18_6 = Q18_6 at h ⊢
  refine code2_sound ok_mono _ _ _ ?_
  refine kmp ?_ h
  generalize Ok Try.prog = C
  unfold en18
  as_aux_lemma => kernel_rfl

noncomputable def J18_10 (x1 x5 x6 x49 x50 x51 : LV) (g : LHeap)  (K : LV → LHeap → Prop) : Prop :=
  loopP (fun s g N => L18_11 x1 x5 x6 x49 x50 s g N  K) x51 g
abbrev kj18_10  (K : LV → LHeap → Prop) : LSt → Prop := fun st => J18_10 (st.tm 1) (st.tm 5) (st.tm 6) (st.tm 49) (st.tm 50) (st.tm 51) st.g  K
theorem J18_10_ok  (K : LV → LHeap → Prop) (tm : Nat → LV) (g : LHeap) (h : J18_10 (tm 1) (tm 5) (tm 6) (tm 49) (tm 50) (tm 51) g  K) : codeL Try.prog (Ok Try.prog) (nd18 [1, 1, 1, 1, 1, 1, 0, 1]) ⟨tm, g⟩ (thenL (kj18_6  K) (en18 K)) := by
  refine block_i (b := nd18 [1, 1, 1, 1, 1, 1, 0, 1, 0]) (i := 2) (by kernel_rfl) ?_
  exact loop_glue (b := nd18 [1, 1, 1, 1, 1, 1, 0, 1, 0, 0]) (by kernel_rfl) (fun tm : Nat → LV => (tm 1, tm 5, tm 6, tm 49, tm 50)) (fun tm : Nat → LV => tm 51) (fun a s g N => L18_11 a.1 a.2.1 a.2.2.1 a.2.2.2.1 a.2.2.2.2 s g N  K) (fun tm g R h => L18_11_ok R  K tm g h) tm g h

noncomputable def J18_5 (x1 x5 x6 : LV) (g : LHeap)  (K : LV → LHeap → Prop) : Prop :=
  vK (fieldAddrL 2 x1) fun t48 =>
  vK (loadV none t48 g) fun t49 =>
  oK (builtinL Try.prog .len [25] [t49] g) fun t50 g =>
  J18_10 x1 x5 x6 t49 t50 (.int .i64 (0)) g  K
abbrev kj18_5  (K : LV → LHeap → Prop) : LSt → Prop := fun st => J18_5 (st.tm 1) (st.tm 5) (st.tm 6) st.g  K
theorem J18_5_ok  (K : LV → LHeap → Prop) (tm : Nat → LV) (g : LHeap) (h : J18_5 (tm 1) (tm 5) (tm 6) g  K) : codeL Try.prog (Ok Try.prog) (nd18 [1, 1, 1, 1, 1, 1]) ⟨tm, g⟩ (en18 K) := by
  refine seq_i (a := nd18 [1, 1, 1, 1, 1, 1, 0]) (b := nd18 [1, 1, 1, 1, 1, 1, 1]) (k' := kj18_6  K) (by kernel_rfl) (fun st h => J18_6_ok  K st.tm st.g h) ?_
  refine seq_i (a := nd18 [1, 1, 1, 1, 1, 1, 0, 0]) (b := nd18 [1, 1, 1, 1, 1, 1, 0, 1]) (k' := kj18_10  K) (by kernel_rfl) (fun st h => J18_10_ok  K st.tm st.g h) ?_
  try unfold J18_5 at h
  unfold kj18_10
  generalize @J18_10 = Q18_10 at h ⊢
  unfold kj18_6
  generalize @J18_6 = Q18_6 at h ⊢
  refine code2_sound ok_mono _ _ _ ?_
  refine kmp ?_ h
  generalize Ok Try.prog = C
  unfold en18
  as_aux_lemma => kernel_rfl

noncomputable def L18_13 (x1 x5 x6 x33 x34 : LV) (x35 : LV) (g : LHeap) (N13 : LV → LHeap → Prop) (K : LV → LHeap → Prop) : Prop :=
  vK (binL Try.prog .lss 3 false x35 x34) fun t36 =>
  ifB t36 (
  vK (ixAddrL none 2 x33 x35) fun t37 =>
  vK (loadV (some 2) t37 g) fun t38 =>
  oK (newL (.agg [(.int .i64 (0)), .nils]) g) fun t8 g =>
  gK (storeV 2 t8 t38 g) fun g =>
  vK (fieldAddrL 0 t8) fun t40 =>
  vK (loadV none t40 g) fun t41 =>
  vK (fieldAddrL 1 t8) fun t42 =>
  vK (loadV none t42 g) fun t43 =>
  oK (builtinL Try.prog .len [23] [t43] g) fun t44 g =>
  oK (buildSliceL Try.prog 51 2 [(0, t41), (1, t44)] g) fun t45 g =>
  callV Try.prog (Ok Try.prog) x6 [t45] g fun t46 g =>
  vK (binL Try.prog .add 3 true x35 (.int .i64 (1))) fun t47 =>
  N13 t47 g) (
  J18_5 x1 x5 x6 g  K)
theorem L18_13_ok (R13 : LV × LV × LV × LV × LV → LV → LHeap → Prop) (K : LV → LHeap → Prop) (tm : Nat → LV) (g : LHeap) (h : L18_13 (tm 1) (tm 5) (tm 6) (tm 33) (tm 34) (tm 35) g (fun s g => R13 ((tm 1), (tm 5), (tm 6), (tm 33), (tm 34)) s g) K) : codeL Try.prog (Ok Try.prog) (nd18 [1, 1, 1, 1, 1, 0, 1, 0, 0]) ⟨tm, g⟩ (roundK (fun tm : Nat → LV => (tm 1, tm 5, tm 6, tm 33, tm 34)) (fun tm : Nat → LV => tm 35) R13 (exitL 0 (thenL (kj18_5  K) (en18 K)))) := by
  try unfold L18_13 at h
  unfold kj18_5
  generalize @J18_5 = Q18_5 at h ⊢
  refine code2_sound ok_mono _ _ _ ?_
  refine kmp ?_ h
  generalize Ok Try.prog = C
  unfold en18
  as_aux_lemma => kernel_rfl

noncomputable def J18_12 (x1 x5 x6 x33 x34 x35 : LV) (g : LHeap)  (K : LV → LHeap → Prop) : Prop :=
  loopP (fun s g N => L18_13 x1 x5 x6 x33 x34 s g N  K) x35 g
abbrev kj18_12  (K : LV → LHeap → Prop) : LSt → Prop := fun st => J18_12 (st.tm 1) (st.tm 5) (st.tm 6) (st.tm 33) (st.tm 34) (st.tm 35) st.g  K
theorem J18_12_ok  (K : LV → LHeap → Prop) (tm : Nat → LV) (g : LHeap) (h : J18_12 (tm 1) (tm 5) (tm 6) (tm 33) (tm 34) (tm 35) g  K) : codeL Try.prog (Ok Try.prog) (nd18 [1, 1, 1, 1, 1, 0, 1]) ⟨tm, g⟩ (thenL (kj18_5  K) (en18 K)) := by
  refine block_i (b := nd18 [1, 1, 1, 1, 1, 0, 1, 0]) (i := 0) (by kernel_rfl) ?_
  exact loop_glue (b := nd18 [1, 1, 1, 1, 1, 0, 1, 0, 0]) (by kernel_rfl) (fun tm : Nat → LV => (tm 1, tm 5, tm 6, tm 33, tm 34)) (fun tm : Nat → LV => tm 35) (fun a s g N => L18_13 a.1 a.2.1 a.2.2.1 a.2.2.2.1 a.2.2.2.2 s g N  K) (fun tm g R h => L18_13_ok R  K tm g h) tm g h

noncomputable def J18_4 (x1 x5 x6 : LV) (g : LHeap)  (K : LV → LHeap → Prop) : Prop :=
  vK (fieldAddrL 1 x1) fun t32 =>
  vK (loadV none t32 g) fun t33 =>
  oK (builtinL Try.prog .len [24] [t33] g) fun t34 g =>
  J18_12 x1 x5 x6 t33 t34 (.int .i64 (0)) g  K
abbrev kj18_4  (K : LV → LHeap → Prop) : LSt → Prop := fun st => J18_4 (st.tm 1) (st.tm 5) (st.tm 6) st.g  K
theorem J18_4_ok  (K : LV → LHeap → Prop) (tm : Nat → LV) (g : LHeap) (h : J18_4 (tm 1) (tm 5) (tm 6) g  K) : codeL Try.prog (Ok Try.prog) (nd18 [1, 1, 1, 1, 1]) ⟨tm, g⟩ (en18 K) := by
  refine seq_i (a := nd18 [1, 1, 1, 1, 1, 0]) (b := nd18 [1, 1, 1, 1, 1, 1]) (k' := kj18_5  K) (by kernel_rfl) (fun st h => J18_5_ok  K st.tm st.g h) ?_
  refine seq_i (a := nd18 [1, 1, 1, 1, 1, 0, 0]) (b := nd18 [1, 1, 1, 1, 1, 0, 1]) (k' := kj18_12  K) (by kernel_rfl) (fun st h => J18_12_ok  K st.tm st.g h) ?_
  try unfold J18_4 at h
  unfold kj18_12
  generalize @J18_12 = Q18_12 at h ⊢
  unfold kj18_5
  generalize @J18_5 = Q18_5 at h ⊢
  refine code2_sound ok_mono _ _ _ ?_
  refine kmp ?_ h
  generalize Ok Try.prog = C
  unfold en18
  as_aux_lemma => kernel_rfl

noncomputable def J18_3 (x1 x5 x6 : LV) (g : LHeap)  (K : LV → LHeap → Prop) : Prop :=
  vK (fieldAddrL 0 x1) fun t22 =>
  vK (loadV none t22 g) fun t23 =>
  vK (fieldAddrL 1 x1) fun t24 =>
  vK (loadV none t24 g) fun t25 =>
  oK (builtinL Try.prog .len [24] [t25] g) fun t26 g =>
  vK (fieldAddrL 2 x1) fun t27 =>
  vK (loadV none t27 g) fun t28 =>
  oK (builtinL Try.prog .len [25] [t28] g) fun t29 g =>
  oK (buildSliceL Try.prog 51 3 [(0, t23), (1, t26), (2, t29)] g) fun t30 g =>
  callV Try.prog (Ok Try.prog) x6 [t30] g fun t31 g =>
  J18_4 x1 x5 x6 g  K
abbrev kj18_3  (K : LV → LHeap → Prop) : LSt → Prop := fun st => J18_3 (st.tm 1) (st.tm 5) (st.tm 6) st.g  K
theorem J18_3_ok  (K : LV → LHeap → Prop) (tm : Nat → LV) (g : LHeap) (h : J18_3 (tm 1) (tm 5) (tm 6) g  K) : codeL Try.prog (Ok Try.prog) (nd18 [1, 1, 1, 1]) ⟨tm, g⟩ (en18 K) := by
  refine seq_i (a := nd18 [1, 1, 1, 1, 0]) (b := nd18 [1, 1, 1, 1, 1]) (k' := kj18_4  K) (by kernel_rfl) (fun st h => J18_4_ok  K st.tm st.g h) ?_
  try unfold J18_3 at h
  unfold kj18_4
  generalize @J18_4 = Q18_4 at h ⊢
  refine code2_sound ok_mono _ _ _ ?_
  refine kmp ?_ h
  generalize Ok Try.prog = C
  unfold en18
  as_aux_lemma => kernel_rfl

noncomputable def J18_2 (x1 x5 : LV) (g : LHeap)  (K : LV → LHeap → Prop) : Prop :=
  J18_3 x1 x5 (.func (.func 58) [] [x5]) g  K
abbrev kj18_2  (K : LV → LHeap → Prop) : LSt → Prop := fun st => J18_2 (st.tm 1) (st.tm 5) st.g  K
theorem J18_2_ok  (K : LV → LHeap → Prop) (tm : Nat → LV) (g : LHeap) (h : J18_2 (tm 1) (tm 5) g  K) : codeL Try.prog (Ok Try.prog) (nd18 [1, 1, 1]) ⟨tm, g⟩ (en18 K) := by
  refine seq_i (a := nd18 [1, 1, 1, 0]) (b := nd18 [1, 1, 1, 1]) (k' := kj18_3  K) (by kernel_rfl) (fun st h => J18_3_ok  K st.tm st.g h) ?_
  try unfold J18_2 at h
  unfold kj18_3
  generalize @J18_3 = Q18_3 at h ⊢
  refine code2_sound ok_mono _ _ _ ?_
  refine kmp ?_ h
  generalize Ok Try.prog = C
  unfold en18
  as_aux_lemma => kernel_rfl

noncomputable def J18_1 (x1 : LV) (g : LHeap)  (K : LV → LHeap → Prop) : Prop :=
  oK (buildSliceL Try.prog 23 4 [(0, (.int .u8 (80))), (1, (.int .u8 (88))), (2, (.int .u8 (69))), (3, (.int .u8 (49)))] g) fun t18 g =>
  oK (convL Try.prog 23 23 t18 g) fun t19 g =>
  oK (newL .nils g) fun t5 g =>
  gK (storeV 1 t5 t19 g) fun g =>
  J18_2 x1 t5 g  K
abbrev kj18_1  (K : LV → LHeap → Prop) : LSt → Prop := fun st => J18_1 (st.tm 1) st.g  K
theorem J18_1_ok  (K : LV → LHeap → Prop) (tm : Nat → LV) (g : LHeap) (h : J18_1 (tm 1) g  K) : codeL Try.prog (Ok Try.prog) (nd18 [1, 1]) ⟨tm, g⟩ (en18 K) := by
  refine seq_i (a := nd18 [1, 1, 0]) (b := nd18 [1, 1, 1]) (k' := kj18_2  K) (by kernel_rfl) (fun st h => J18_2_ok  K st.tm st.g h) ?_
  try unfold J18_1 at h
  unfold kj18_2
  generalize @J18_2 = Q18_2 at h ⊢
  refine code2_sound ok_mono _ _ _ ?_
  refine kmp ?_ h
  generalize Ok Try.prog = C
  unfold en18
  as_aux_lemma => kernel_rfl

noncomputable def J18_0 (x1 : LV) (g : LHeap)  (K : LV → LHeap → Prop) : Prop :=
  vK (loadV (some 3) x1 g) fun t13 =>
  Ok Try.prog 41 [t13] g fun t14 g =>
  vK (binL Try.prog .neq 28 true t14 (.int .i64 (0))) fun t16 =>
  ifB t16 (
  K (.tuple [.nils, t14]) g) (
  J18_1 x1 g  K)
abbrev kj18_0  (K : LV → LHeap → Prop) : LSt → Prop := fun st => J18_0 (st.tm 1) st.g  K
theorem J18_0_ok  (K : LV → LHeap → Prop) (tm : Nat → LV) (g : LHeap) (h : J18_0 (tm 1) g  K) : codeL Try.prog (Ok Try.prog) (nd18 [1]) ⟨tm, g⟩ (en18 K) := by
  refine seq_i (a := nd18 [1, 0]) (b := nd18 [1, 1]) (k' := kj18_1  K) (by kernel_rfl) (fun st h => J18_1_ok  K st.tm st.g h) ?_
  try unfold J18_0 at h
  unfold kj18_1
  generalize @J18_1 = Q18_1 at h ⊢
  refine code2_sound ok_mono _ _ _ ?_
  refine kmp ?_ h
  generalize Ok Try.prog = C
  unfold en18
  as_aux_lemma => kernel_rfl

noncomputable def F18 (x0 : LV) (g : LHeap) (K : LV → LHeap → Prop) : Prop :=
  oK (newL x0 g) fun t1 g =>
  J18_0 t1 g  K
theorem ok18 {x0 : LV} {g : LHeap} {K : LV → LHeap → Prop} (h : g.Wf → (∀ v ∈ ([x0] : List LV), ∀ b ∈ v.objs, b < g.next) → F18 x0 g K) : Ok Try.prog 18 [x0] g K := by
  refine ok_fw Try.mixed Try.func18 (by kernel_rfl) (by kernel_rfl) (c := nd18 []) (by kernel_rfl) fun wf lt => ?_
  rw [← en18_eq]
  replace h := h wf lt
  generalize hs : startL _ = tm
  replace h : F18 (tm 0) g K := by rw [← hs]; exact h
  refine seq_i (a := nd18 [0]) (b := nd18 [1]) (k' := kj18_0  K) (by kernel_rfl) (fun st h => J18_0_ok  K st.tm st.g h) ?_
  try unfold F18 at h
  unfold kj18_0
  generalize @J18_0 = Q18_0 at h ⊢
  refine code2_sound ok_mono _ _ _ ?_
  refine kmp ?_ h
  generalize Ok Try.prog = C
  unfold en18
  as_aux_lemma => kernel_rfl

/-! parapet/parapetref23.two (10 slots) -/
noncomputable def en67 (K : LV → LHeap → Prop) : LEx → LSt → Prop := fun e st => match e with
  | .exit _ => False
  | _ => K (st.tm 2) st.g
theorem en67_eq (K : LV → LHeap → Prop) : en67 K = endL Try.prog Try.f67 K := by
  funext e st
  cases e <;> kernel_rfl
noncomputable def nd67 (p : List Nat) : Code := subC p (bodyC Try.prog 67)
noncomputable def F67 (x0 : LV) (g : LHeap) (K : LV → LHeap → Prop) : Prop :=
  vK (binL Try.prog .rem 3 true x0 (.int .i64 (256))) fun t4 =>
  oK (convL Try.prog 3 5 t4 g) fun t5 g =>
  vK (binL Try.prog .quo 3 true x0 (.int .i64 (256))) fun t7 =>
  oK (convL Try.prog 3 5 t7 g) fun t8 g =>
  oK (buildSliceL Try.prog 23 2 [(0, t5), (1, t8)] g) fun t9 g =>
  K t9 g
theorem ok67 {x0 : LV} {g : LHeap} {K : LV → LHeap → Prop} (h : g.Wf → (∀ v ∈ ([x0] : List LV), ∀ b ∈ v.objs, b < g.next) → F67 x0 g K) : Ok Try.prog 67 [x0] g K := by
  refine ok_fw Try.mixed Try.func67 (by kernel_rfl) (by kernel_rfl) (c := nd67 []) (by kernel_rfl) fun wf lt => ?_
  rw [← en67_eq]
  replace h := h wf lt
  generalize hs : startL _ = tm
  replace h : F67 (tm 0) g K := by rw [← hs]; exact h
  try unfold F67 at h
  refine code2_sound ok_mono _ _ _ ?_
  refine kmp ?_ h
  generalize Ok Try.prog = C
  unfold en67
  as_aux_lemma => kernel_rfl

/-! parapet/parapetref23.Make (100 slots) -/
noncomputable def en40 (K : LV → LHeap → Prop) : LEx → LSt → Prop := fun e st => match e with
  | .exit _ => False
  | _ => K (.tuple [(st.tm 2), (st.tm 3)]) st.g
theorem en40_eq (K : LV → LHeap → Prop) : en40 K = endL Try.prog Try.f40 K := by
  funext e st
  cases e <;> kernel_rfl
noncomputable def nd40 (p : List Nat) : Code := subC p (bodyC Try.prog 40)
noncomputable def J40_8 (x5 : LV) (g : LHeap)  (K : LV → LHeap → Prop) : Prop :=
  K (.tuple [x5, (.int .i64 (0))]) g
abbrev kj40_8  (K : LV → LHeap → Prop) : LSt → Prop := fun st => J40_8 (st.tm 5) st.g  K
theorem J40_8_ok  (K : LV → LHeap → Prop) (tm : Nat → LV) (g : LHeap) (h : J40_8 (tm 5) g  K) : codeL Try.prog (Ok Try.prog) (nd40 [1, 1, 1, 1, 1, 1, 1, 1, 1]) ⟨tm, g⟩ (en40 K) := by
  try unfold J40_8 at h
  refine code2_sound ok_mono _ _ _ ?_
  refine kmp ?_ h
  generalize Ok Try.prog = C
  unfold en40
  as_aux_lemma => kernel_rfl

noncomputable def L40_10 (x1 : LV) (x5 x8 : LV) (g : LHeap) (N10 : LV × LV → LHeap → Prop) (K : LV → LHeap → Prop) : Prop :=
  vK (fieldAddrL 1 x1) fun t85 =>
  vK (loadV none t85 g) fun t86 =>
  oK (builtinL Try.prog .len [24] [t86] g) fun t87 g =>
  vK (binL Try.prog .lss 3 false x8 t87) fun t88 =>
  ifB t88 (
  vK (fieldAddrL 1 x1) fun t92 =>
  vK (loadV none t92 g) fun t93 =>
  vK (ixAddrL none 2 t93 x8) fun t95 =>
  vK (fieldAddrL 1 t95) fun t96 =>
  vK (loadV none t96 g) fun t97 =>
  oK (builtinL Try.prog .append [23, 23] [x5, t97] g) fun t98 g =>
  vK (binL Try.prog .add 3 true x8 (.int .i64 (1))) fun t90 =>
  N10 (t98, t90) g) (
  J40_8 x5 g  K)
theorem L40_10_ok (R10 : LV → LV × LV → LHeap → Prop) (K : LV → LHeap → Prop) (tm : Nat → LV) (g : LHeap) (h : L40_10 (tm 1) (tm 5) (tm 8) g (fun s g => R10 (tm 1) s g) K) : codeL Try.prog (Ok Try.prog) (nd40 [1, 1, 1, 1, 1, 1, 1, 1, 0, 1, 0, 0]) ⟨tm, g⟩ (roundK (fun tm : Nat → LV => tm 1) (fun tm : Nat → LV => (tm 5, tm 8)) R10 (exitL 4 (thenL (kj40_8  K) (en40 K)))) := by
  try unfold L40_10 at h
  unfold kj40_8
  generalize @J40_8 = Q40_8 at h ⊢
  refine code2_sound ok_mono _ _ _ ?_
  refine kmp ?_ h
  generalize Ok Try.prog = C
  unfold en40
  as_aux_lemma => kernel_rfl

noncomputable def J40_9 (x1 x5 x8 : LV) (g : LHeap)  (K : LV → LHeap → Prop) : Prop :=
  loopP (fun s g N => L40_10 x1 s.1 s.2 g N  K) (x5, x8) g
abbrev kj40_9  (K : LV → LHeap → Prop) : LSt → Prop := fun st => J40_9 (st.tm 1) (st.tm 5) (st.tm 8) st.g  K
theorem J40_9_ok  (K : LV → LHeap → Prop) (tm : Nat → LV) (g : LHeap) (h : J40_9 (tm 1) (tm 5) (tm 8) g  K) : codeL Try.prog (Ok Try.prog) (nd40 [1, 1, 1, 1, 1, 1, 1, 1, 0, 1]) ⟨tm, g⟩ (thenL (kj40_8  K) (en40 K)) := by
  refine block_i (b := nd40 [1, 1, 1, 1, 1, 1, 1, 1, 0, 1, 0]) (i := 4) (by kernel_rfl) ?_
  exact loop_glue (b := nd40 [1, 1, 1, 1, 1, 1, 1, 1, 0, 1, 0, 0]) (by kernel_rfl) (fun tm : Nat → LV => tm 1) (fun tm : Nat → LV => (tm 5, tm 8)) (fun a s g N => L40_10 a s.1 s.2 g N  K) (fun tm g R h => L40_10_ok R  K tm g h) tm g h

noncomputable def J40_7 (x1 x5 : LV) (g : LHeap)  (K : LV → LHeap → Prop) : Prop :=
  J40_9 x1 x5 (.int .i64 (0)) g  K
abbrev kj40_7  (K : LV → LHeap → Prop) : LSt → Prop := fun st => J40_7 (st.tm 1) (st.tm 5) st.g  K
theorem J40_7_ok  (K : LV → LHeap → Prop) (tm : Nat → LV) (g : LHeap) (h : J40_7 (tm 1) (tm 5) g  K) : codeL Try.prog (Ok Try.prog) (nd40 [1, 1, 1, 1, 1, 1, 1, 1]) ⟨tm, g⟩ (en40 K) := by
  refine seq_i (a := nd40 [1, 1, 1, 1, 1, 1, 1, 1, 0]) (b := nd40 [1, 1, 1, 1, 1, 1, 1, 1, 1]) (k' := kj40_8  K) (by kernel_rfl) (fun st h => J40_8_ok  K st.tm st.g h) ?_
  refine seq_i (a := nd40 [1, 1, 1, 1, 1, 1, 1, 1, 0, 0]) (b := nd40 [1, 1, 1, 1, 1, 1, 1, 1, 0, 1]) (k' := kj40_9  K) (by kernel_rfl) (fun st h => J40_9_ok  K st.tm st.g h) ?_
  try unfold J40_7 at h
  unfold kj40_9
  generalize @J40_9 = Q40_9 at h ⊢
  unfold kj40_8
  generalize @J40_8 = Q40_8 at h ⊢
  refine code2_sound ok_mono _ _ _ ?_
  refine kmp ?_ h
  generalize Ok Try.prog = C
  unfold en40
  as_aux_lemma => kernel_rfl

noncomputable def L40_12 (x1 : LV) (x5 x7 : LV) (g : LHeap) (N12 : LV × LV → LHeap → Prop) (K : LV → LHeap → Prop) : Prop :=
  vK (fieldAddrL 2 x1) fun t60 =>
  vK (loadV none t60 g) fun t61 =>
  oK (builtinL Try.prog .len [25] [t61] g) fun t62 g =>
  vK (binL Try.prog .lss 3 false x7 t62) fun t63 =>
  ifB t63 (
  vK (fieldAddrL 2 x1) fun t67 =>
  vK (loadV none t67 g) fun t68 =>
  vK (ixAddrL none 2 t68 x7) fun t70 =>
  vK (fieldAddrL 0 t70) fun t71 =>
  vK (loadV none t71 g) fun t72 =>
  Ok Try.prog 67 [t72] g fun t73 g =>
  oK (builtinL Try.prog .append [23, 23] [x5, t73] g) fun t74 g =>
  vK (fieldAddrL 2 x1) fun t76 =>
  vK (loadV none t76 g) fun t77 =>
  vK (ixAddrL none 2 t77 x7) fun t79 =>
  vK (fieldAddrL 1 t79) fun t80 =>
  vK (loadV none t80 g) fun t81 =>
  Ok Try.prog 67 [t81] g fun t82 g =>
  oK (builtinL Try.prog .append [23, 23] [t74, t82] g) fun t83 g =>
  vK (binL Try.prog .add 3 true x7 (.int .i64 (1))) fun t65 =>
  N12 (t83, t65) g) (
  J40_7 x1 x5 g  K)
theorem L40_12_ok (R12 : LV → LV × LV → LHeap → Prop) (K : LV → LHeap → Prop) (tm : Nat → LV) (g : LHeap) (h : L40_12 (tm 1) (tm 5) (tm 7) g (fun s g => R12 (tm 1) s g) K) : codeL Try.prog (Ok Try.prog) (nd40 [1, 1, 1, 1, 1, 1, 1, 0, 1, 0, 0]) ⟨tm, g⟩ (roundK (fun tm : Nat → LV => tm 1) (fun tm : Nat → LV => (tm 5, tm 7)) R12 (exitL 2 (thenL (kj40_7  K) (en40 K)))) := by
  try unfold L40_12 at h
  unfold kj40_7
  generalize @J40_7 = Q40_7 at h ⊢
  refine code2_sound ok_mono _ _ _ ?_
  refine kmp ?_ h
  generalize Ok Try.prog = C
  unfold en40
  as_aux_lemma => kernel_rfl

noncomputable def J40_11 (x1 x5 x7 : LV) (g : LHeap)  (K : LV → LHeap → Prop) : Prop :=
  loopP (fun s g N => L40_12 x1 s.1 s.2 g N  K) (x5, x7) g
abbrev kj40_11  (K : LV → LHeap → Prop) : LSt → Prop := fun st => J40_11 (st.tm 1) (st.tm 5) (st.tm 7) st.g  K
theorem J40_11_ok  (K : LV → LHeap → Prop) (tm : Nat → LV) (g : LHeap) (h : J40_11 (tm 1) (tm 5) (tm 7) g  K) : codeL Try.prog (Ok Try.prog) (nd40 [1, 1, 1, 1, 1, 1, 1, 0, 1]) ⟨tm, g⟩ (thenL (kj40_7  K) (en40 K)) := by
  refine block_i (b := nd40 [1, 1, 1, 1, 1, 1, 1, 0, 1, 0]) (i := 2) (by kernel_rfl) ?_
  exact loop_glue (b := nd40 [1, 1, 1, 1, 1, 1, 1, 0, 1, 0, 0]) (by kernel_rfl) (fun tm : Nat → LV => tm 1) (fun tm : Nat → LV => (tm 5, tm 7)) (fun a s g N => L40_12 a s.1 s.2 g N  K) (fun tm g R h => L40_12_ok R  K tm g h) tm g h

noncomputable def J40_6 (x1 x5 : LV) (g : LHeap)  (K : LV → LHeap → Prop) : Prop :=
  J40_11 x1 x5 (.int .i64 (0)) g  K
abbrev kj40_6  (K : LV → LHeap → Prop) : LSt → Prop := fun st => J40_6 (st.tm 1) (st.tm 5) st.g  K
theorem J40_6_ok  (K : LV → LHeap → Prop) (tm : Nat → LV) (g : LHeap) (h : J40_6 (tm 1) (tm 5) g  K) : codeL Try.prog (Ok Try.prog) (nd40 [1, 1, 1, 1, 1, 1, 1]) ⟨tm, g⟩ (en40 K) := by
  refine seq_i (a := nd40 [1, 1, 1, 1, 1, 1, 1, 0]) (b := nd40 [1, 1, 1, 1, 1, 1, 1, 1]) (k' := kj40_7  K) (by kernel_rfl) (fun st h => J40_7_ok  K st.tm st.g h) ?_
  refine seq_i (a := nd40 [1, 1, 1, 1, 1, 1, 1, 0, 0]) (b := nd40 [1, 1, 1, 1, 1, 1, 1, 0, 1]) (k' := kj40_11  K) (by kernel_rfl) (fun st h => J40_11_ok  K st.tm st.g h) ?_
  try unfold J40_6 at h
  unfold kj40_11
  generalize @J40_11 = Q40_11 at h ⊢
  unfold kj40_7
  generalize @J40_7 = Q40_7 at h ⊢
  refine code2_sound ok_mono _ _ _ ?_
  refine kmp ?_ h
  generalize Ok Try.prog = C
  unfold en40
  as_aux_lemma => kernel_rfl

noncomputable def L40_14 (x1 : LV) (x5 x6 : LV) (g : LHeap) (N14 : LV × LV → LHeap → Prop) (K : LV → LHeap → Prop) : Prop :=
  vK (fieldAddrL 1 x1) fun t34 =>
  vK (loadV none t34 g) fun t35 =>
  oK (builtinL Try.prog .len [24] [t35] g) fun t36 g =>
  vK (binL Try.prog .lss 3 false x6 t36) fun t37 =>
  ifB t37 (
  vK (fieldAddrL 1 x1) fun t41 =>
  vK (loadV none t41 g) fun t42 =>
  vK (ixAddrL none 2 t42 x6) fun t44 =>
  vK (fieldAddrL 0 t44) fun t45 =>
  vK (loadV none t45 g) fun t46 =>
  Ok Try.prog 67 [t46] g fun t47 g =>
  oK (builtinL Try.prog .append [23, 23] [x5, t47] g) fun t48 g =>
  vK (fieldAddrL 1 x1) fun t50 =>
  vK (loadV none t50 g) fun t51 =>
  vK (ixAddrL none 2 t51 x6) fun t53 =>
  vK (fieldAddrL 1 t53) fun t54 =>
  vK (loadV none t54 g) fun t55 =>
  oK (builtinL Try.prog .len [23] [t55] g) fun t56 g =>
  Ok Try.prog 67 [t56] g fun t57 g =>
  oK (builtinL Try.prog .append [23, 23] [t48, t57] g) fun t58 g =>
  vK (binL Try.prog .add 3 true x6 (.int .i64 (1))) fun t39 =>
  N14 (t58, t39) g) (
  J40_6 x1 x5 g  K)
theorem L40_14_ok (R14 : LV → LV × LV → LHeap → Prop) (K : LV → LHeap → Prop) (tm : Nat → LV) (g : LHeap) (h : L40_14 (tm 1) (tm 5) (tm 6) g (fun s g => R14 (tm 1) s g) K) : codeL Try.prog (Ok Try.prog) (nd40 [1, 1, 1, 1, 1, 1, 0, 1, 0, 0]) ⟨tm, g⟩ (roundK (fun tm : Nat → LV => tm 1) (fun tm : Nat → LV => (tm 5, tm 6)) R14 (exitL 0 (thenL (kj40_6  K) (en40 K)))) := by
  try unfold L40_14 at h
  unfold kj40_6
  generalize @J40_6 = Q40_6 at h ⊢
  refine code2_sound ok_mono _ _ _ ?_
  refine kmp ?_ h
  generalize Ok Try.prog = C
  unfold en40
  as_aux_lemma => kernel_rfl

noncomputable def J40_13 (x1 x5 x6 : LV) (g : LHeap)  (K : LV → LHeap → Prop) : Prop :=
  loopP (fun s g N => L40_14 x1 s.1 s.2 g N  K) (x5, x6) g
abbrev kj40_13  (K : LV → LHeap → Prop) : LSt → Prop := fun st => J40_13 (st.tm 1) (st.tm 5) (st.tm 6) st.g  K
theorem J40_13_ok  (K : LV → LHeap → Prop) (tm : Nat → LV) (g : LHeap) (h : J40_13 (tm 1) (tm 5) (tm 6) g  K) : codeL Try.prog (Ok Try.prog) (nd40 [1, 1, 1, 1, 1, 1, 0, 1]) ⟨tm, g⟩ (thenL (kj40_6  K) (en40 K)) := by
  refine block_i (b := nd40 [1, 1, 1, 1, 1, 1, 0, 1, 0]) (i := 0) (by kernel_rfl) ?_
  exact loop_glue (b := nd40 [1, 1, 1, 1, 1, 1, 0, 1, 0, 0]) (by kernel_rfl) (fun tm : Nat → LV => tm 1) (fun tm : Nat → LV => (tm 5, tm 6)) (fun a s g N => L40_14 a s.1 s.2 g N  K) (fun tm g R h => L40_14_ok R  K tm g h) tm g h

noncomputable def J40_5 (x1 x5 : LV) (g : LHeap)  (K : LV → LHeap → Prop) : Prop :=
  J40_13 x1 x5 (.int .i64 (0)) g  K
abbrev kj40_5  (K : LV → LHeap → Prop) : LSt → Prop := fun st => J40_5 (st.tm 1) (st.tm 5) st.g  K
theorem J40_5_ok  (K : LV → LHeap → Prop) (tm : Nat → LV) (g : LHeap) (h : J40_5 (tm 1) (tm 5) g  K) : codeL Try.prog (Ok Try.prog) (nd40 [1, 1, 1, 1, 1, 1]) ⟨tm, g⟩ (en40 K) := by
  refine seq_i (a := nd40 [1, 1, 1, 1, 1, 1, 0]) (b := nd40 [1, 1, 1, 1, 1, 1, 1]) (k' := kj40_6  K) (by kernel_rfl) (fun st h => J40_6_ok  K st.tm st.g h) ?_
  refine seq_i (a := nd40 [1, 1, 1, 1, 1, 1, 0, 0]) (b := nd40 [1, 1, 1, 1, 1, 1, 0, 1]) (k' := kj40_13  K) (by kernel_rfl) (fun st h => J40_13_ok  K st.tm st.g h) ?_
  try unfold J40_5 at h
  unfold kj40_13
  generalize @J40_13 = Q40_13 at h ⊢
  unfold kj40_6
  generalize @J40_6 = Q40_6 at h ⊢
  refine code2_sound ok_mono _ _ _ ?_
  refine kmp ?_ h
  generalize Ok Try.prog = C
  unfold en40
  as_aux_lemma => kernel_rfl

noncomputable def J40_4 (x1 x5 : LV) (g : LHeap)  (K : LV → LHeap → Prop) : Prop :=
  vK (fieldAddrL 2 x1) fun t28 =>
  vK (loadV none t28 g) fun t29 =>
  oK (builtinL Try.prog .len [25] [t29] g) fun t30 g =>
  Ok Try.prog 67 [t30] g fun t31 g =>
  oK (builtinL Try.prog .append [23, 23] [x5, t31] g) fun t32 g =>
  J40_5 x1 t32 g  K
abbrev kj40_4  (K : LV → LHeap → Prop) : LSt → Prop := fun st => J40_4 (st.tm 1) (st.tm 5) st.g  K
theorem J40_4_ok  (K : LV → LHeap → Prop) (tm : Nat → LV) (g : LHeap) (h : J40_4 (tm 1) (tm 5) g  K) : codeL Try.prog (Ok Try.prog) (nd40 [1, 1, 1, 1, 1]) ⟨tm, g⟩ (en40 K) := by
  refine seq_i (a := nd40 [1, 1, 1, 1, 1, 0]) (b := nd40 [1, 1, 1, 1, 1, 1]) (k' := kj40_5  K) (by kernel_rfl) (fun st h => J40_5_ok  K st.tm st.g h) ?_
  try unfold J40_4 at h
  unfold kj40_5
  generalize @J40_5 = Q40_5 at h ⊢
  refine code2_sound ok_mono _ _ _ ?_
  refine kmp ?_ h
  generalize Ok Try.prog = C
  unfold en40
  as_aux_lemma => kernel_rfl

noncomputable def J40_3 (x1 x5 : LV) (g : LHeap)  (K : LV → LHeap → Prop) : Prop :=
  vK (fieldAddrL 1 x1) fun t22 =>
  vK (loadV none t22 g) fun t23 =>
  oK (builtinL Try.prog .len [24] [t23] g) fun t24 g =>
  Ok Try.prog 67 [t24] g fun t25 g =>
  oK (builtinL Try.prog .append [23, 23] [x5, t25] g) fun t26 g =>
  J40_4 x1 t26 g  K
abbrev kj40_3  (K : LV → LHeap → Prop) : LSt → Prop := fun st => J40_3 (st.tm 1) (st.tm 5) st.g  K
theorem J40_3_ok  (K : LV → LHeap → Prop) (tm : Nat → LV) (g : LHeap) (h : J40_3 (tm 1) (tm 5) g  K) : codeL Try.prog (Ok Try.prog) (nd40 [1, 1, 1, 1]) ⟨tm, g⟩ (en40 K) := by
  refine seq_i (a := nd40 [1, 1, 1, 1, 0]) (b := nd40 [1, 1, 1, 1, 1]) (k' := kj40_4  K) (by kernel_rfl) (fun st h => J40_4_ok  K st.tm st.g h) ?_
  try unfold J40_3 at h
  unfold kj40_4
  generalize @J40_4 = Q40_4 at h ⊢
  refine code2_sound ok_mono _ _ _ ?_
  refine kmp ?_ h
  generalize Ok Try.prog = C
  unfold en40
  as_aux_lemma => kernel_rfl

noncomputable def J40_2 (x1 x5 : LV) (g : LHeap)  (K : LV → LHeap → Prop) : Prop :=
  vK (fieldAddrL 0 x1) fun t17 =>
  vK (loadV none t17 g) fun t18 =>
  Ok Try.prog 67 [t18] g fun t19 g =>
  oK (builtinL Try.prog .append [23, 23] [x5, t19] g) fun t20 g =>
  J40_3 x1 t20 g  K
abbrev kj40_2  (K : LV → LHeap → Prop) : LSt → Prop := fun st => J40_2 (st.tm 1) (st.tm 5) st.g  K
theorem J40_2_ok  (K : LV → LHeap → Prop) (tm : Nat → LV) (g : LHeap) (h : J40_2 (tm 1) (tm 5) g  K) : codeL Try.prog (Ok Try.prog) (nd40 [1, 1, 1]) ⟨tm, g⟩ (en40 K) := by
  refine seq_i (a := nd40 [1, 1, 1, 0]) (b := nd40 [1, 1, 1, 1]) (k' := kj40_3  K) (by kernel_rfl) (fun st h => J40_3_ok  K st.tm st.g h) ?_
  try unfold J40_2 at h
  unfold kj40_3
  generalize @J40_3 = Q40_3 at h ⊢
  refine code2_sound ok_mono _ _ _ ?_
  refine kmp ?_ h
  generalize Ok Try.prog = C
  unfold en40
  as_aux_lemma => kernel_rfl

noncomputable def J40_1 (x1 : LV) (g : LHeap)  (K : LV → LHeap → Prop) : Prop :=
  oK (buildSliceL Try.prog 23 4 [(0, (.int .u8 (80))), (1, (.int .u8 (88))), (2, (.int .u8 (69))), (3, (.int .u8 (49)))] g) fun t14 g =>
  oK (convL Try.prog 23 23 t14 g) fun t15 g =>
  J40_2 x1 t15 g  K
abbrev kj40_1  (K : LV → LHeap → Prop) : LSt → Prop := fun st => J40_1 (st.tm 1) st.g  K
theorem J40_1_ok  (K : LV → LHeap → Prop) (tm : Nat → LV) (g : LHeap) (h : J40_1 (tm 1) g  K) : codeL Try.prog (Ok Try.prog) (nd40 [1, 1]) ⟨tm, g⟩ (en40 K) := by
  refine seq_i (a := nd40 [1, 1, 0]) (b := nd40 [1, 1, 1]) (k' := kj40_2  K) (by kernel_rfl) (fun st h => J40_2_ok  K st.tm st.g h) ?_
  try unfold J40_1 at h
  unfold kj40_2
  generalize @J40_2 = Q40_2 at h ⊢
  refine code2_sound ok_mono _ _ _ ?_
  refine kmp ?_ h
  generalize Ok Try.prog = C
  unfold en40
  as_aux_lemma => kernel_rfl

noncomputable def J40_0 (x1 : LV) (g : LHeap)  (K : LV → LHeap → Prop) : Prop :=
  vK (loadV (some 3) x1 g) fun t9 =>
  Ok Try.prog 42 [t9] g fun t10 g =>
  vK (binL Try.prog .neq 28 true t10 (.int .i64 (0))) fun t12 =>
  ifB t12 (
  K (.tuple [.nils, t10]) g) (
  J40_1 x1 g  K)
abbrev kj40_0  (K : LV → LHeap → Prop) : LSt → Prop := fun st => J40_0 (st.tm 1) st.g  K
theorem J40_0_ok  (K : LV → LHeap → Prop) (tm : Nat → LV) (g : LHeap) (h : J40_0 (tm 1) g  K) : codeL Try.prog (Ok Try.prog) (nd40 [1]) ⟨tm, g⟩ (en40 K) := by
  refine seq_i (a := nd40 [1, 0]) (b := nd40 [1, 1]) (k' := kj40_1  K) (by kernel_rfl) (fun st h => J40_1_ok  K st.tm st.g h) ?_
  try unfold J40_0 at h
  unfold kj40_1
  generalize @J40_1 = Q40_1 at h ⊢
  refine code2_sound ok_mono _ _ _ ?_
  refine kmp ?_ h
  generalize Ok Try.prog = C
  unfold en40
  as_aux_lemma => kernel_rfl

noncomputable def F40 (x0 : LV) (g : LHeap) (K : LV → LHeap → Prop) : Prop :=
  oK (newL x0 g) fun t1 g =>
  J40_0 t1 g  K
theorem ok40 {x0 : LV} {g : LHeap} {K : LV → LHeap → Prop} (h : g.Wf → (∀ v ∈ ([x0] : List LV), ∀ b ∈ v.objs, b < g.next) → F40 x0 g K) : Ok Try.prog 40 [x0] g K := by
  refine ok_fw Try.mixed Try.func40 (by kernel_rfl) (by kernel_rfl) (c := nd40 []) (by kernel_rfl) fun wf lt => ?_
  rw [← en40_eq]
  replace h := h wf lt
  generalize hs : startL _ = tm
  replace h : F40 (tm 0) g K := by rw [← hs]; exact h
  refine seq_i (a := nd40 [0]) (b := nd40 [1]) (k' := kj40_0  K) (by kernel_rfl) (fun st h => J40_0_ok  K st.tm st.g h) ?_
  try unfold F40 at h
  unfold kj40_0
  generalize @J40_0 = Q40_0 at h ⊢
  refine code2_sound ok_mono _ _ _ ?_
  refine kmp ?_ h
  generalize Ok Try.prog = C
  unfold en40
  as_aux_lemma => kernel_rfl

/-! (*parapet/image.reader).take (35 slots) -/
noncomputable def en56 (K : LV → LHeap → Prop) : LEx → LSt → Prop := fun e st => match e with
  | .exit _ => False
  | _ => K (st.tm 4) st.g
theorem en56_eq (K : LV → LHeap → Prop) : en56 K = endL Try.prog Try.f56 K := by
  funext e st
  cases e <;> kernel_rfl
noncomputable def nd56 (p : List Nat) : Code := subC p (bodyC Try.prog 56)
noncomputable def F56 (x0 x1 : LV) (g : LHeap) (K : LV → LHeap → Prop) : Prop :=
  vK (nilCheckL x0) fun t8 =>
  vK (fieldAddrL 0 t8) fun t9 =>
  vK (loadV none t9 g) fun t10 =>
  oK (builtinL Try.prog .len [23] [t10] g) fun t11 g =>
  vK (binL Try.prog .gtr 3 false x1 t11) fun t12 =>
  ifB t12 (
  vK (nilCheckL x0) fun t14 =>
  vK (fieldAddrL 1 t14) fun t15 =>
  gK (storeV 1 t15 (.bool true) g) fun g =>
  oK (makeSliceL Try.prog 23 x1 x1 g) fun t17 g =>
  K t17 g) (
  vK (nilCheckL x0) fun t19 =>
  vK (fieldAddrL 0 t19) fun t20 =>
  vK (loadV none t20 g) fun t21 =>
  vK (cutT Try.prog 23 t21 none (some x1) (some x1) (limL t21 g)) fun t24 =>
  vK (nilCheckL x0) fun t27 =>
  vK (fieldAddrL 0 t27) fun t28 =>
  vK (loadV none t28 g) fun t29 =>
  vK (cutT Try.prog 23 t29 (some x1) none none (limL t29 g)) fun t31 =>
  vK (nilCheckL x0) fun t32 =>
  vK (fieldAddrL 0 t32) fun t33 =>
  gK (storeV 1 t33 t31 g) fun g =>
  K t24 g)
theorem ok56 {x0 x1 : LV} {g : LHeap} {K : LV → LHeap → Prop} (h : g.Wf → (∀ v ∈ ([x0, x1] : List LV), ∀ b ∈ v.objs, b < g.next) → F56 x0 x1 g K) : Ok Try.prog 56 [x0, x1] g K := by
  refine ok_fw Try.mixed Try.func56 (by kernel_rfl) (by kernel_rfl) (c := nd56 []) (by kernel_rfl) fun wf lt => ?_
  rw [← en56_eq]
  replace h := h wf lt
  generalize hs : startL _ = tm
  replace h : F56 (tm 0) (tm 1) g K := by rw [← hs]; exact h
  try unfold F56 at h
  refine code2_sound ok_mono _ _ _ ?_
  refine kmp ?_ h
  generalize Ok Try.prog = C
  unfold en56
  as_aux_lemma => kernel_rfl

/-! (*parapet/image.reader).two (16 slots) -/
noncomputable def en57 (K : LV → LHeap → Prop) : LEx → LSt → Prop := fun e st => match e with
  | .exit _ => False
  | _ => K (st.tm 2) st.g
theorem en57_eq (K : LV → LHeap → Prop) : en57 K = endL Try.prog Try.f57 K := by
  funext e st
  cases e <;> kernel_rfl
noncomputable def nd57 (p : List Nat) : Code := subC p (bodyC Try.prog 57)
noncomputable def F57 (x0 : LV) (g : LHeap) (K : LV → LHeap → Prop) : Prop :=
  Ok Try.prog 56 [x0, (.int .i64 (2))] g fun t5 g =>
  vK (ixAddrL none 1 t5 (.int .i64 (0))) fun t7 =>
  vK (loadV none t7 g) fun t8 =>
  vK (convLightL Try.prog 5 3 t8 g) fun t9 =>
  vK (ixAddrL none 1 t5 (.int .i64 (1))) fun t11 =>
  vK (loadV none t11 g) fun t12 =>
  vK (convLightL Try.prog 5 3 t12 g) fun t13 =>
  vK (binL Try.prog .shl 3 true t13 (.int .u64 (8))) fun t14 =>
  vK (binL Try.prog .or 3 false t9 t14) fun t15 =>
  K t15 g
theorem ok57 {x0 : LV} {g : LHeap} {K : LV → LHeap → Prop} (h : g.Wf → (∀ v ∈ ([x0] : List LV), ∀ b ∈ v.objs, b < g.next) → F57 x0 g K) : Ok Try.prog 57 [x0] g K := by
  refine ok_fw Try.mixed Try.func57 (by kernel_rfl) (by kernel_rfl) (c := nd57 []) (by kernel_rfl) fun wf lt => ?_
  rw [← en57_eq]
  replace h := h wf lt
  generalize hs : startL _ = tm
  replace h : F57 (tm 0) g K := by rw [← hs]; exact h
  try unfold F57 at h
  refine code2_sound ok_mono _ _ _ ?_
  refine kmp ?_ h
  generalize Ok Try.prog = C
  unfold en57
  as_aux_lemma => kernel_rfl

/-! parapet/image.Parse (113 slots) -/
noncomputable def en14 (K : LV → LHeap → Prop) : LEx → LSt → Prop := fun e st => match e with
  | .exit _ => False
  | _ => retC Try.prog [.cell 2 27, .tmp 3] [(2, (st.tm 2)), (3, (st.tm 3))] st.g K
theorem en14_eq (K : LV → LHeap → Prop) : en14 K = endL Try.prog Try.f14 K := by
  funext e st
  cases e <;> kernel_rfl
noncomputable def nd14 (p : List Nat) : Code := subC p (bodyC Try.prog 14)
noncomputable def J14_10 (x0 x2 x4 x5 : LV) (g : LHeap)  (K : LV → LHeap → Prop) : Prop :=
  vK (loadV (some 3) x5 g) fun t92 =>
  Ok Try.prog 18 [t92] g fun t93 g =>
  vK (extractL t93 0) fun t94 =>
  vK (extractL t93 1) fun t95 =>
  vK (nilCheckL x4) fun t97 =>
  vK (fieldAddrL 1 t97) fun t98 =>
  vK (loadV none t98 g) fun t99 =>
  gd t99 false g (fun K => K t95 g) fun t101 g =>
  gd t99 false g (fun K => vK (binL Try.prog .neq 28 true t101 (.int .i64 (0))) fun v => K v g) fun t102 g =>
  vK (pickL t99 (.bool true) t102) fun t103 =>
  gd t103 false g (fun K => K t94 g) fun t105 g =>
  gd t103 false g (fun K => oK (convL Try.prog 23 9 t105 g) K) fun t106 g =>
  gd t103 false g (fun K => K x0 g) fun t107 g =>
  gd t103 false g (fun K => oK (convL Try.prog 23 9 t107 g) K) fun t108 g =>
  gd t103 false g (fun K => vK (binL Try.prog .neq 9 false t106 t108) fun v => K v g) fun t109 g =>
  vK (pickL t103 (.bool true) t109) fun t110 =>
  ifB t110 (
  vK (buildL Try.prog 27 []) fun t111 =>
  gK (storeV 3 x2 t111 g) fun g =>
  retC Try.prog [.cell 2 27, .tmp 3] [(2, x2), (3, (.int .i64 (230)))] g K) (
  vK (loadV (some 3) x5 g) fun t112 =>
  gK (storeV 3 x2 t112 g) fun g =>
  retC Try.prog [.cell 2 27, .tmp 3] [(2, x2), (3, (.int .i64 (0)))] g K)
abbrev kj14_10  (K : LV → LHeap → Prop) : LSt → Prop := fun st => J14_10 (st.tm 0) (st.tm 2) (st.tm 4) (st.tm 5) st.g  K
theorem J14_10_ok  (K : LV → LHeap → Prop) (tm : Nat → LV) (g : LHeap) (h : J14_10 (tm 0) (tm 2) (tm 4) (tm 5) g  K) : codeL Try.prog (Ok Try.prog) (nd14 [1, 1, 1, 1, 1, 1, 1, 1, 1, 1, 1]) ⟨tm, g⟩ (en14 K) := by
  try unfold J14_10 at h
  refine code2_sound ok_mono _ _ _ ?_
  refine kmp ?_ h
  generalize Ok Try.prog = C
  unfold en14
  as_aux_lemma => kernel_rfl

noncomputable def L14_12 (x0 x2 x4 x5 x73 x74 : LV) (x75 : LV) (g : LHeap) (N12 : LV → LHeap → Prop) (K : LV → LHeap → Prop) : Prop :=
  vK (binL Try.prog .lss 3 false x75 x74) fun t76 =>
  ifB t76 (
  vK (ixAddrL none 1 x73 x75) fun t78 =>
  vK (loadV none t78 g) fun t79 =>
  vK (fieldAddrL 1 x5) fun t80 =>
  vK (loadV none t80 g) fun t81 =>
  ((oK (buildSliceL Try.prog 23 0 [] g) fun t83 g =>
  ((loadV none t80 g) = some t81 ∧ 
  ((Ok Try.prog 56 [x4, t79] g fun t86 g =>
  ((loadV none t80 g) = some t81 ∧ 
  ((oK (builtinL Try.prog .append [23, 23] [t83, t86] g) fun t87 g =>
  ((loadV none t80 g) = some t81 ∧ 
  vK (ixAddrL none 2 t81 x75) fun t88 =>
  vK (fieldAddrL 1 t88) fun t89 =>
  ((gK (storeV 1 t89 t87 g) fun g =>
  
  vK (binL Try.prog .add 3 true x75 (.int .i64 (1))) fun t90 =>
  N12 t90 g) ∧ True))) ∧ True))) ∧ True))) ∧ ((Ok Try.prog 56 [x4, t79] g fun t86 g =>
  ((loadV none t80 g) = some t81 ∧ 
  ((oK (buildSliceL Try.prog 23 0 [] g) fun t83 g =>
  ((loadV none t80 g) = some t81 ∧ 
  ((oK (builtinL Try.prog .append [23, 23] [t83, t86] g) fun t87 g =>
  ((loadV none t80 g) = some t81 ∧ 
  vK (ixAddrL none 2 t81 x75) fun t88 =>
  vK (fieldAddrL 1 t88) fun t89 =>
  ((gK (storeV 1 t89 t87 g) fun g =>
  
  vK (binL Try.prog .add 3 true x75 (.int .i64 (1))) fun t90 =>
  N12 t90 g) ∧ True))) ∧ True))) ∧ True))) ∧ True))) (
  J14_10 x0 x2 x4 x5 g  K)
theorem L14_12_ok (R12 : LV × LV × LV × LV × LV × LV → LV → LHeap → Prop) (K : LV → LHeap → Prop) (tm : Nat → LV) (g : LHeap) (h : L14_12 (tm 0) (tm 2) (tm 4) (tm 5) (tm 73) (tm 74) (tm 75) g (fun s g => R12 ((tm 0), (tm 2), (tm 4), (tm 5), (tm 73), (tm 74)) s g) K) : codeL Try.prog (Ok Try.prog) (nd14 [1, 1, 1, 1, 1, 1, 1, 1, 1, 1, 0, 1, 0, 0]) ⟨tm, g⟩ (roundK (fun tm : Nat → LV => (tm 0, tm 2, tm 4, tm 5, tm 73, tm 74)) (fun tm : Nat → LV => tm 75) R12 (exitL 4 (thenL (kj14_10  K) (en14 K)))) := by
  try unfold L14_12 at h
  unfold kj14_10
  generalize @J14_10 = Q14_10 at h ⊢
  refine code2_sound ok_mono _ _ _ ?_
  refine kmp ?_ h
  generalize Ok Try.prog = C
  unfold en14
  as_aux_lemma => kernel_rfl

noncomputable def J14_11 (x0 x2 x4 x5 x73 x74 x75 : LV) (g : LHeap)  (K : LV → LHeap → Prop) : Prop :=
  loopP (fun s g N => L14_12 x0 x2 x4 x5 x73 x74 s g N  K) x75 g
abbrev kj14_11  (K : LV → LHeap → Prop) : LSt → Prop := fun st => J14_11 (st.tm 0) (st.tm 2) (st.tm 4) (st.tm 5) (st.tm 73) (st.tm 74) (st.tm 75) st.g  K
theorem J14_11_ok  (K : LV → LHeap → Prop) (tm : Nat → LV) (g : LHeap) (h : J14_11 (tm 0) (tm 2) (tm 4) (tm 5) (tm 73) (tm 74) (tm 75) g  K) : codeL Try.prog (Ok Try.prog) (nd14 [1, 1, 1, 1, 1, 1, 1, 1, 1, 1, 0, 1]) ⟨tm, g⟩ (thenL (kj14_10  K) (en14 K)) := by
  refine block_i (b := nd14 [1, 1, 1, 1, 1, 1, 1, 1, 1, 1, 0, 1, 0]) (i := 4) (by kernel_rfl) ?_
  exact loop_glue (b := nd14 [1, 1, 1, 1, 1, 1, 1, 1, 1, 1, 0, 1, 0, 0]) (by kernel_rfl) (fun tm : Nat → LV => (tm 0, tm 2, tm 4, tm 5, tm 73, tm 74)) (fun tm : Nat → LV => tm 75) (fun a s g N => L14_12 a.1 a.2.1 a.2.2.1 a.2.2.2.1 a.2.2.2.2.1 a.2.2.2.2.2 s g N  K) (fun tm g R h => L14_12_ok R  K tm g h) tm g h

noncomputable def J14_9 (x0 x2 x4 x5 x8 : LV) (g : LHeap)  (K : LV → LHeap → Prop) : Prop :=
  oK (builtinL Try.prog .len [51] [x8] g) fun t74 g =>
  J14_11 x0 x2 x4 x5 x8 t74 (.int .i64 (0)) g  K
abbrev kj14_9  (K : LV → LHeap → Prop) : LSt → Prop := fun st => J14_9 (st.tm 0) (st.tm 2) (st.tm 4) (st.tm 5) (st.tm 8) st.g  K
theorem J14_9_ok  (K : LV → LHeap → Prop) (tm : Nat → LV) (g : LHeap) (h : J14_9 (tm 0) (tm 2) (tm 4) (tm 5) (tm 8) g  K) : codeL Try.prog (Ok Try.prog) (nd14 [1, 1, 1, 1, 1, 1, 1, 1, 1, 1]) ⟨tm, g⟩ (en14 K) := by
  refine seq_i (a := nd14 [1, 1, 1, 1, 1, 1, 1, 1, 1, 1, 0]) (b := nd14 [1, 1, 1, 1, 1, 1, 1, 1, 1, 1, 1]) (k' := kj14_10  K) (by kernel_rfl) (fun st h => J14_10_ok  K st.tm st.g h) ?_
  refine seq_i (a := nd14 [1, 1, 1, 1, 1, 1, 1, 1, 1, 1, 0, 0]) (b := nd14 [1, 1, 1, 1, 1, 1, 1, 1, 1, 1, 0, 1]) (k' := kj14_11  K) (by kernel_rfl) (fun st h => J14_11_ok  K st.tm st.g h) ?_
  try unfold J14_9 at h
  unfold kj14_11
  generalize @J14_11 = Q14_11 at h ⊢
  unfold kj14_10
  generalize @J14_10 = Q14_10 at h ⊢
  refine code2_sound ok_mono _ _ _ ?_
  refine kmp ?_ h
  generalize Ok Try.prog = C
  unfold en14
  as_aux_lemma => kernel_rfl

noncomputable def L14_14 (x0 x2 x4 x5 x8 x59 : LV) (x60 : LV) (g : LHeap) (N14 : LV → LHeap → Prop) (K : LV → LHeap → Prop) : Prop :=
  vK (binL Try.prog .lss 3 false x60 x59) fun t61 =>
  ifB t61 (
  vK (fieldAddrL 2 x5) fun t62 =>
  vK (loadV none t62 g) fun t63 =>
  ((Ok Try.prog 57 [x4] g fun t65 g =>
  ((loadV none t62 g) = some t63 ∧ 
  ((Ok Try.prog 57 [x4] g fun t67 g =>
  ((loadV none t62 g) = some t63 ∧ 
  vK (buildL Try.prog 94 [(0, t65), (1, t67)]) fun t68 =>
  ((oK (buildSliceL Try.prog 25 1 [(0, t68)] g) fun t69 g =>
  ((loadV none t62 g) = some t63 ∧ 
  ((oK (builtinL Try.prog .append [25, 25] [t63, t69] g) fun t70 g =>
  
  vK (fieldAddrL 2 x5) fun t71 =>
  ((gK (storeV 1 t71 t70 g) fun g =>
  
  vK (binL Try.prog .add 3 true x60 (.int .i64 (1))) fun t72 =>
  N14 t72 g) ∧ True)) ∧ True))) ∧ True))) ∧ True))) ∧ True)) (
  J14_9 x0 x2 x4 x5 x8 g  K)
theorem L14_14_ok (R14 : LV × LV × LV × LV × LV × LV → LV → LHeap → Prop) (K : LV → LHeap → Prop) (tm : Nat → LV) (g : LHeap) (h : L14_14 (tm 0) (tm 2) (tm 4) (tm 5) (tm 8) (tm 59) (tm 60) g (fun s g => R14 ((tm 0), (tm 2), (tm 4), (tm 5), (tm 8), (tm 59)) s g) K) : codeL Try.prog (Ok Try.prog) (nd14 [1, 1, 1, 1, 1, 1, 1, 1, 1, 0, 1, 0, 0]) ⟨tm, g⟩ (roundK (fun tm : Nat → LV => (tm 0, tm 2, tm 4, tm 5, tm 8, tm 59)) (fun tm : Nat → LV => tm 60) R14 (exitL 2 (thenL (kj14_9  K) (en14 K)))) := by
  try unfold L14_14 at h
  unfold kj14_9
  generalize @J14_9 = Q14_9 at h ⊢
  refine code2_sound ok_mono _ _ _ ?_
  refine kmp ?_ h
  generalize Ok Try.prog = C
  unfold en14
  as_aux_lemma => kernel_rfl

noncomputable def J14_13 (x0 x2 x4 x5 x8 x59 x60 : LV) (g : LHeap)  (K : LV → LHeap → Prop) : Prop :=
  loopP (fun s g N => L14_14 x0 x2 x4 x5 x8 x59 s g N  K) x60 g
abbrev kj14_13  (K : LV → LHeap → Prop) : LSt → Prop := fun st => J14_13 (st.tm 0) (st.tm 2) (st.tm 4) (st.tm 5) (st.tm 8) (st.tm 59) (st.tm 60) st.g  K
theorem J14_13_ok  (K : LV → LHeap → Prop) (tm : Nat → LV) (g : LHeap) (h : J14_13 (tm 0) (tm 2) (tm 4) (tm 5) (tm 8) (tm 59) (tm 60) g  K) : codeL Try.prog (Ok Try.prog) (nd14 [1, 1, 1, 1, 1, 1, 1, 1, 1, 0, 1]) ⟨tm, g⟩ (thenL (kj14_9  K) (en14 K)) := by
  refine block_i (b := nd14 [1, 1, 1, 1, 1, 1, 1, 1, 1, 0, 1, 0]) (i := 2) (by kernel_rfl) ?_
  exact loop_glue (b := nd14 [1, 1, 1, 1, 1, 1, 1, 1, 1, 0, 1, 0, 0]) (by kernel_rfl) (fun tm : Nat → LV => (tm 0, tm 2, tm 4, tm 5, tm 8, tm 59)) (fun tm : Nat → LV => tm 60) (fun a s g N => L14_14 a.1 a.2.1 a.2.2.1 a.2.2.2.1 a.2.2.2.2.1 a.2.2.2.2.2 s g N  K) (fun tm g R h => L14_14_ok R  K tm g h) tm g h

noncomputable def J14_8 (x0 x2 x4 x5 x7 x8 : LV) (g : LHeap)  (K : LV → LHeap → Prop) : Prop :=
  J14_13 x0 x2 x4 x5 x8 x7 (.int .i64 (0)) g  K
abbrev kj14_8  (K : LV → LHeap → Prop) : LSt → Prop := fun st => J14_8 (st.tm 0) (st.tm 2) (st.tm 4) (st.tm 5) (st.tm 7) (st.tm 8) st.g  K
theorem J14_8_ok  (K : LV → LHeap → Prop) (tm : Nat → LV) (g : LHeap) (h : J14_8 (tm 0) (tm 2) (tm 4) (tm 5) (tm 7) (tm 8) g  K) : codeL Try.prog (Ok Try.prog) (nd14 [1, 1, 1, 1, 1, 1, 1, 1, 1]) ⟨tm, g⟩ (en14 K) := by
  refine seq_i (a := nd14 [1, 1, 1, 1, 1, 1, 1, 1, 1, 0]) (b := nd14 [1, 1, 1, 1, 1, 1, 1, 1, 1, 1]) (k' := kj14_9  K) (by kernel_rfl) (fun st h => J14_9_ok  K st.tm st.g h) ?_
  refine seq_i (a := nd14 [1, 1, 1, 1, 1, 1, 1, 1, 1, 0, 0]) (b := nd14 [1, 1, 1, 1, 1, 1, 1, 1, 1, 0, 1]) (k' := kj14_13  K) (by kernel_rfl) (fun st h => J14_13_ok  K st.tm st.g h) ?_
  try unfold J14_8 at h
  unfold kj14_13
  generalize @J14_13 = Q14_13 at h ⊢
  unfold kj14_9
  generalize @J14_9 = Q14_9 at h ⊢
  refine code2_sound ok_mono _ _ _ ?_
  refine kmp ?_ h
  generalize Ok Try.prog = C
  unfold en14
  as_aux_lemma => kernel_rfl

noncomputable def L14_16 (x0 x2 x4 x5 x7 x42 : LV) (x8 x43 : LV) (g : LHeap) (N16 : LV × LV → LHeap → Prop) (K : LV → LHeap → Prop) : Prop :=
  vK (binL Try.prog .lss 3 false x43 x42) fun t44 =>
  ifB t44 (
  vK (fieldAddrL 1 x5) fun t45 =>
  vK (loadV none t45 g) fun t46 =>
  ((Ok Try.prog 57 [x4] g fun t48 g =>
  ((loadV none t45 g) = some t46 ∧ 
  vK (buildL Try.prog 92 [(0, t48)]) fun t49 =>
  ((oK (buildSliceL Try.prog 24 1 [(0, t49)] g) fun t50 g =>
  ((loadV none t45 g) = some t46 ∧ 
  ((oK (builtinL Try.prog .append [24, 24] [t46, t50] g) fun t51 g =>
  
  vK (fieldAddrL 1 x5) fun t52 =>
  ((gK (storeV 1 t52 t51 g) fun g =>
  
  Ok Try.prog 57 [x4] g fun t55 g =>
  oK (buildSliceL Try.prog 51 1 [(0, t55)] g) fun t56 g =>
  oK (builtinL Try.prog .append [51, 51] [x8, t56] g) fun t57 g =>
  vK (binL Try.prog .add 3 true x43 (.int .i64 (1))) fun t58 =>
  N16 (t57, t58) g) ∧ True)) ∧ True))) ∧ True))) ∧ True)) (
  J14_8 x0 x2 x4 x5 x7 x8 g  K)
theorem L14_16_ok (R16 : LV × LV × LV × LV × LV × LV → LV × LV → LHeap → Prop) (K : LV → LHeap → Prop) (tm : Nat → LV) (g : LHeap) (h : L14_16 (tm 0) (tm 2) (tm 4) (tm 5) (tm 7) (tm 42) (tm 8) (tm 43) g (fun s g => R16 ((tm 0), (tm 2), (tm 4), (tm 5), (tm 7), (tm 42)) s g) K) : codeL Try.prog (Ok Try.prog) (nd14 [1, 1, 1, 1, 1, 1, 1, 1, 0, 1, 0, 0]) ⟨tm, g⟩ (roundK (fun tm : Nat → LV => (tm 0, tm 2, tm 4, tm 5, tm 7, tm 42)) (fun tm : Nat → LV => (tm 8, tm 43)) R16 (exitL 0 (thenL (kj14_8  K) (en14 K)))) := by
  try unfold L14_16 at h
  unfold kj14_8
  generalize @J14_8 = Q14_8 at h ⊢
  refine code2_sound ok_mono _ _ _ ?_
  refine kmp ?_ h
  generalize Ok Try.prog = C
  unfold en14
  as_aux_lemma => kernel_rfl

noncomputable def J14_15 (x0 x2 x4 x5 x7 x8 x42 x43 : LV) (g : LHeap)  (K : LV → LHeap → Prop) : Prop :=
  loopP (fun s g N => L14_16 x0 x2 x4 x5 x7 x42 s.1 s.2 g N  K) (x8, x43) g
abbrev kj14_15  (K : LV → LHeap → Prop) : LSt → Prop := fun st => J14_15 (st.tm 0) (st.tm 2) (st.tm 4) (st.tm 5) (st.tm 7) (st.tm 8) (st.tm 42) (st.tm 43) st.g  K
theorem J14_15_ok  (K : LV → LHeap → Prop) (tm : Nat → LV) (g : LHeap) (h : J14_15 (tm 0) (tm 2) (tm 4) (tm 5) (tm 7) (tm 8) (tm 42) (tm 43) g  K) : codeL Try.prog (Ok Try.prog) (nd14 [1, 1, 1, 1, 1, 1, 1, 1, 0, 1]) ⟨tm, g⟩ (thenL (kj14_8  K) (en14 K)) := by
  refine block_i (b := nd14 [1, 1, 1, 1, 1, 1, 1, 1, 0, 1, 0]) (i := 0) (by kernel_rfl) ?_
  exact loop_glue (b := nd14 [1, 1, 1, 1, 1, 1, 1, 1, 0, 1, 0, 0]) (by kernel_rfl) (fun tm : Nat → LV => (tm 0, tm 2, tm 4, tm 5, tm 7, tm 42)) (fun tm : Nat → LV => (tm 8, tm 43)) (fun a s g N => L14_16 a.1 a.2.1 a.2.2.1 a.2.2.2.1 a.2.2.2.2.1 a.2.2.2.2.2 s.1 s.2 g N  K) (fun tm g R h => L14_16_ok R  K tm g h) tm g h

noncomputable def J14_7 (x0 x2 x4 x5 x6 x7 x8 : LV) (g : LHeap)  (K : LV → LHeap → Prop) : Prop :=
  J14_15 x0 x2 x4 x5 x7 x8 x6 (.int .i64 (0)) g  K
abbrev kj14_7  (K : LV → LHeap → Prop) : LSt → Prop := fun st => J14_7 (st.tm 0) (st.tm 2) (st.tm 4) (st.tm 5) (st.tm 6) (st.tm 7) (st.tm 8) st.g  K
theorem J14_7_ok  (K : LV → LHeap → Prop) (tm : Nat → LV) (g : LHeap) (h : J14_7 (tm 0) (tm 2) (tm 4) (tm 5) (tm 6) (tm 7) (tm 8) g  K) : codeL Try.prog (Ok Try.prog) (nd14 [1, 1, 1, 1, 1, 1, 1, 1]) ⟨tm, g⟩ (en14 K) := by
  refine seq_i (a := nd14 [1, 1, 1, 1, 1, 1, 1, 1, 0]) (b := nd14 [1, 1, 1, 1, 1, 1, 1, 1, 1]) (k' := kj14_8  K) (by kernel_rfl) (fun st h => J14_8_ok  K st.tm st.g h) ?_
  refine seq_i (a := nd14 [1, 1, 1, 1, 1, 1, 1, 1, 0, 0]) (b := nd14 [1, 1, 1, 1, 1, 1, 1, 1, 0, 1]) (k' := kj14_15  K) (by kernel_rfl) (fun st h => J14_15_ok  K st.tm st.g h) ?_
  try unfold J14_7 at h
  unfold kj14_15
  generalize @J14_15 = Q14_15 at h ⊢
  unfold kj14_8
  generalize @J14_8 = Q14_8 at h ⊢
  refine code2_sound ok_mono _ _ _ ?_
  refine kmp ?_ h
  generalize Ok Try.prog = C
  unfold en14
  as_aux_lemma => kernel_rfl

noncomputable def J14_6 (x0 x2 x4 x5 x6 x7 : LV) (g : LHeap)  (K : LV → LHeap → Prop) : Prop :=
  J14_7 x0 x2 x4 x5 x6 x7 .nils g  K
abbrev kj14_6  (K : LV → LHeap → Prop) : LSt → Prop := fun st => J14_6 (st.tm 0) (st.tm 2) (st.tm 4) (st.tm 5) (st.tm 6) (st.tm 7) st.g  K
theorem J14_6_ok  (K : LV → LHeap → Prop) (tm : Nat → LV) (g : LHeap) (h : J14_6 (tm 0) (tm 2) (tm 4) (tm 5) (tm 6) (tm 7) g  K) : codeL Try.prog (Ok Try.prog) (nd14 [1, 1, 1, 1, 1, 1, 1]) ⟨tm, g⟩ (en14 K) := by
  refine seq_i (a := nd14 [1, 1, 1, 1, 1, 1, 1, 0]) (b := nd14 [1, 1, 1, 1, 1, 1, 1, 1]) (k' := kj14_7  K) (by kernel_rfl) (fun st h => J14_7_ok  K st.tm st.g h) ?_
  try unfold J14_6 at h
  unfold kj14_7
  generalize @J14_7 = Q14_7 at h ⊢
  refine code2_sound ok_mono _ _ _ ?_
  refine kmp ?_ h
  generalize Ok Try.prog = C
  unfold en14
  as_aux_lemma => kernel_rfl

noncomputable def J14_5 (x0 x2 x4 x5 x6 x7 : LV) (g : LHeap)  (K : LV → LHeap → Prop) : Prop :=
  vK (nilCheckL x4) fun t30 =>
  vK (fieldAddrL 1 t30) fun t31 =>
  vK (loadV none t31 g) fun t32 =>
  gd t32 false g (fun K => K x6 g) fun t34 g =>
  gd t32 false g (fun K => vK (binL Try.prog .gtr 3 true t34 (.int .i64 (16))) fun v => K v g) fun t35 g =>
  vK (pickL t32 (.bool true) t35) fun t36 =>
  gd t36 false g (fun K => K x7 g) fun t38 g =>
  gd t36 false g (fun K => vK (binL Try.prog .gtr 3 true t38 (.int .i64 (16))) fun v => K v g) fun t39 g =>
  vK (pickL t36 (.bool true) t39) fun t40 =>
  ifB t40 (
  vK (buildL Try.prog 27 []) fun t41 =>
  gK (storeV 3 x2 t41 g) fun g =>
  retC Try.prog [.cell 2 27, .tmp 3] [(2, x2), (3, (.int .i64 (230)))] g K) (
  J14_6 x0 x2 x4 x5 x6 x7 g  K)
abbrev kj14_5  (K : LV → LHeap → Prop) : LSt → Prop := fun st => J14_5 (st.tm 0) (st.tm 2) (st.tm 4) (st.tm 5) (st.tm 6) (st.tm 7) st.g  K
theorem J14_5_ok  (K : LV → LHeap → Prop) (tm : Nat → LV) (g : LHeap) (h : J14_5 (tm 0) (tm 2) (tm 4) (tm 5) (tm 6) (tm 7) g  K) : codeL Try.prog (Ok Try.prog) (nd14 [1, 1, 1, 1, 1, 1]) ⟨tm, g⟩ (en14 K) := by
  refine seq_i (a := nd14 [1, 1, 1, 1, 1, 1, 0]) (b := nd14 [1, 1, 1, 1, 1, 1, 1]) (k' := kj14_6  K) (by kernel_rfl) (fun st h => J14_6_ok  K st.tm st.g h) ?_
  try unfold J14_5 at h
  unfold kj14_6
  generalize @J14_6 = Q14_6 at h ⊢
  refine code2_sound ok_mono _ _ _ ?_
  refine kmp ?_ h
  generalize Ok Try.prog = C
  unfold en14
  as_aux_lemma => kernel_rfl

noncomputable def J14_4 (x0 x2 x4 x5 : LV) (g : LHeap)  (K : LV → LHeap → Prop) : Prop :=
  Ok Try.prog 57 [x4] g fun t26 g =>
  Ok Try.prog 57 [x4] g fun t28 g =>
  J14_5 x0 x2 x4 x5 t26 t28 g  K
abbrev kj14_4  (K : LV → LHeap → Prop) : LSt → Prop := fun st => J14_4 (st.tm 0) (st.tm 2) (st.tm 4) (st.tm 5) st.g  K
theorem J14_4_ok  (K : LV → LHeap → Prop) (tm : Nat → LV) (g : LHeap) (h : J14_4 (tm 0) (tm 2) (tm 4) (tm 5) g  K) : codeL Try.prog (Ok Try.prog) (nd14 [1, 1, 1, 1, 1]) ⟨tm, g⟩ (en14 K) := by
  refine seq_i (a := nd14 [1, 1, 1, 1, 1, 0]) (b := nd14 [1, 1, 1, 1, 1, 1]) (k' := kj14_5  K) (by kernel_rfl) (fun st h => J14_5_ok  K st.tm st.g h) ?_
  try unfold J14_4 at h
  unfold kj14_5
  generalize @J14_5 = Q14_5 at h ⊢
  refine code2_sound ok_mono _ _ _ ?_
  refine kmp ?_ h
  generalize Ok Try.prog = C
  unfold en14
  as_aux_lemma => kernel_rfl

noncomputable def J14_3 (x0 x2 x4 : LV) (g : LHeap)  (K : LV → LHeap → Prop) : Prop :=
  Ok Try.prog 57 [x4] g fun t23 g =>
  vK (buildL Try.prog 27 [(0, t23)]) fun t24 =>
  oK (newL (.agg [(.int .i64 (0)), .nils, .nils]) g) fun t5 g =>
  gK (storeV 3 t5 t24 g) fun g =>
  J14_4 x0 x2 x4 t5 g  K
abbrev kj14_3  (K : LV → LHeap → Prop) : LSt → Prop := fun st => J14_3 (st.tm 0) (st.tm 2) (st.tm 4) st.g  K
theorem J14_3_ok  (K : LV → LHeap → Prop) (tm : Nat → LV) (g : LHeap) (h : J14_3 (tm 0) (tm 2) (tm 4) g  K) : codeL Try.prog (Ok Try.prog) (nd14 [1, 1, 1, 1]) ⟨tm, g⟩ (en14 K) := by
  refine seq_i (a := nd14 [1, 1, 1, 1, 0]) (b := nd14 [1, 1, 1, 1, 1]) (k' := kj14_4  K) (by kernel_rfl) (fun st h => J14_4_ok  K st.tm st.g h) ?_
  try unfold J14_3 at h
  unfold kj14_4
  generalize @J14_4 = Q14_4 at h ⊢
  refine code2_sound ok_mono _ _ _ ?_
  refine kmp ?_ h
  generalize Ok Try.prog = C
  unfold en14
  as_aux_lemma => kernel_rfl

noncomputable def J14_2 (x0 x2 x4 : LV) (g : LHeap)  (K : LV → LHeap → Prop) : Prop :=
  Ok Try.prog 56 [x4, (.int .i64 (4))] g fun t21 g =>
  J14_3 x0 x2 x4 g  K
abbrev kj14_2  (K : LV → LHeap → Prop) : LSt → Prop := fun st => J14_2 (st.tm 0) (st.tm 2) (st.tm 4) st.g  K
theorem J14_2_ok  (K : LV → LHeap → Prop) (tm : Nat → LV) (g : LHeap) (h : J14_2 (tm 0) (tm 2) (tm 4) g  K) : codeL Try.prog (Ok Try.prog) (nd14 [1, 1, 1]) ⟨tm, g⟩ (en14 K) := by
  refine seq_i (a := nd14 [1, 1, 1, 0]) (b := nd14 [1, 1, 1, 1]) (k' := kj14_3  K) (by kernel_rfl) (fun st h => J14_3_ok  K st.tm st.g h) ?_
  try unfold J14_2 at h
  unfold kj14_3
  generalize @J14_3 = Q14_3 at h ⊢
  refine code2_sound ok_mono _ _ _ ?_
  refine kmp ?_ h
  generalize Ok Try.prog = C
  unfold en14
  as_aux_lemma => kernel_rfl

noncomputable def J14_1 (x0 x2 : LV) (g : LHeap)  (K : LV → LHeap → Prop) : Prop :=
  vK (buildL Try.prog 89 [(0, x0)]) fun t18 =>
  oK (newL t18 g) fun t19 g =>
  J14_2 x0 x2 t19 g  K
abbrev kj14_1  (K : LV → LHeap → Prop) : LSt → Prop := fun st => J14_1 (st.tm 0) (st.tm 2) st.g  K
theorem J14_1_ok  (K : LV → LHeap → Prop) (tm : Nat → LV) (g : LHeap) (h : J14_1 (tm 0) (tm 2) g  K) : codeL Try.prog (Ok Try.prog) (nd14 [1, 1]) ⟨tm, g⟩ (en14 K) := by
  refine seq_i (a := nd14 [1, 1, 0]) (b := nd14 [1, 1, 1]) (k' := kj14_2  K) (by kernel_rfl) (fun st h => J14_2_ok  K st.tm st.g h) ?_
  try unfold J14_1 at h
  unfold kj14_2
  generalize @J14_2 = Q14_2 at h ⊢
  refine code2_sound ok_mono _ _ _ ?_
  refine kmp ?_ h
  generalize Ok Try.prog = C
  unfold en14
  as_aux_lemma => kernel_rfl

noncomputable def J14_0 (x0 x2 : LV) (g : LHeap)  (K : LV → LHeap → Prop) : Prop :=
  oK (builtinL Try.prog .len [23] [x0] g) fun t14 g =>
  vK (binL Try.prog .gtr 3 true t14 (.int .i64 (16384))) fun t15 =>
  ifB t15 (
  vK (buildL Try.prog 27 []) fun t16 =>
  gK (storeV 3 x2 t16 g) fun g =>
  retC Try.prog [.cell 2 27, .tmp 3] [(2, x2), (3, (.int .i64 (230)))] g K) (
  J14_1 x0 x2 g  K)
abbrev kj14_0  (K : LV → LHeap → Prop) : LSt → Prop := fun st => J14_0 (st.tm 0) (st.tm 2) st.g  K
theorem J14_0_ok  (K : LV → LHeap → Prop) (tm : Nat → LV) (g : LHeap) (h : J14_0 (tm 0) (tm 2) g  K) : codeL Try.prog (Ok Try.prog) (nd14 [1]) ⟨tm, g⟩ (en14 K) := by
  refine seq_i (a := nd14 [1, 0]) (b := nd14 [1, 1]) (k' := kj14_1  K) (by kernel_rfl) (fun st h => J14_1_ok  K st.tm st.g h) ?_
  try unfold J14_0 at h
  unfold kj14_1
  generalize @J14_1 = Q14_1 at h ⊢
  refine code2_sound ok_mono _ _ _ ?_
  refine kmp ?_ h
  generalize Ok Try.prog = C
  unfold en14
  as_aux_lemma => kernel_rfl

noncomputable def F14 (x0 : LV) (g : LHeap) (K : LV → LHeap → Prop) : Prop :=
  oK (newL (.agg [(.int .i64 (0)), .nils, .nils]) g) fun t2 g =>
  J14_0 x0 t2 g  K
theorem ok14 {x0 : LV} {g : LHeap} {K : LV → LHeap → Prop} (h : g.Wf → (∀ v ∈ ([x0] : List LV), ∀ b ∈ v.objs, b < g.next) → F14 x0 g K) : Ok Try.prog 14 [x0] g K := by
  refine ok_fw Try.mixed Try.func14 (by kernel_rfl) (by kernel_rfl) (c := nd14 []) (by kernel_rfl) fun wf lt => ?_
  rw [← en14_eq]
  replace h := h wf lt
  generalize hs : startL _ = tm
  replace h : F14 (tm 0) g K := by rw [← hs]; exact h
  refine seq_i (a := nd14 [0]) (b := nd14 [1]) (k' := kj14_0  K) (by kernel_rfl) (fun st h => J14_0_ok  K st.tm st.g h) ?_
  try unfold F14 at h
  unfold kj14_0
  generalize @J14_0 = Q14_0 at h ⊢
  refine code2_sound ok_mono _ _ _ ?_
  refine kmp ?_ h
  generalize Ok Try.prog = C
  unfold en14
  as_aux_lemma => kernel_rfl

/-! parapet/parapetref23.Parse (181 slots) -/
noncomputable def en15 (K : LV → LHeap → Prop) : LEx → LSt → Prop := fun e st => match e with
  | .exit _ => False
  | _ => retC Try.prog [.cell 2 27, .tmp 3] [(2, (st.tm 2)), (3, (st.tm 3))] st.g K
theorem en15_eq (K : LV → LHeap → Prop) : en15 K = endL Try.prog Try.f15 K := by
  funext e st
  cases e <;> kernel_rfl
noncomputable def nd15 (p : List Nat) : Code := subC p (bodyC Try.prog 15)
noncomputable def J15_8 (x0 x2 x6 : LV) (g : LHeap)  (K : LV → LHeap → Prop) : Prop :=
  vK (loadV (some 3) x6 g) fun t166 =>
  Ok Try.prog 40 [t166] g fun t167 g =>
  vK (extractL t167 0) fun t168 =>
  vK (extractL t167 1) fun t169 =>
  vK (binL Try.prog .neq 28 true t169 (.int .i64 (0))) fun t171 =>
  gd t171 false g (fun K => K t168 g) fun t173 g =>
  gd t171 false g (fun K => oK (convL Try.prog 23 9 t173 g) K) fun t174 g =>
  gd t171 false g (fun K => K x0 g) fun t175 g =>
  gd t171 false g (fun K => oK (convL Try.prog 23 9 t175 g) K) fun t176 g =>
  gd t171 false g (fun K => vK (binL Try.prog .neq 9 false t174 t176) fun v => K v g) fun t177 g =>
  vK (pickL t171 (.bool true) t177) fun t178 =>
  ifB t178 (
  vK (buildL Try.prog 27 []) fun t179 =>
  gK (storeV 3 x2 t179 g) fun g =>
  retC Try.prog [.cell 2 27, .tmp 3] [(2, x2), (3, (.int .i64 (230)))] g K) (
  vK (loadV (some 3) x6 g) fun t180 =>
  gK (storeV 3 x2 t180 g) fun g =>
  retC Try.prog [.cell 2 27, .tmp 3] [(2, x2), (3, (.int .i64 (0)))] g K)
abbrev kj15_8  (K : LV → LHeap → Prop) : LSt → Prop := fun st => J15_8 (st.tm 0) (st.tm 2) (st.tm 6) st.g  K
theorem J15_8_ok  (K : LV → LHeap → Prop) (tm : Nat → LV) (g : LHeap) (h : J15_8 (tm 0) (tm 2) (tm 6) g  K) : codeL Try.prog (Ok Try.prog) (nd15 [1, 1, 1, 1, 1, 1, 1, 1, 1]) ⟨tm, g⟩ (en15 K) := by
  try unfold J15_8 at h
  refine code2_sound ok_mono _ _ _ ?_
  refine kmp ?_ h
  generalize Ok Try.prog = C
  unfold en15
  as_aux_lemma => kernel_rfl

noncomputable def L15_10 (x0 x2 x4 x6 : LV) (x10 : LV) (g : LHeap) (N10 : LV → LHeap → Prop) (K : LV → LHeap → Prop) : Prop :=
  vK (ixAddrL none 1 x4 (.int .i64 (2))) fun t131 =>
  vK (loadV none t131 g) fun t132 =>
  vK (binL Try.prog .lss 3 false x10 t132) fun t133 =>
  ifB t133 (
  vK (fieldAddrL 2 x6) fun t136 =>
  vK (loadV none t136 g) fun t137 =>
  vK (ixAddrL none 1 x4 (.int .i64 (1))) fun t140 =>
  vK (loadV none t140 g) fun t141 =>
  vK (binL Try.prog .mul 3 true (.int .i64 (2)) t141) fun t142 =>
  vK (binL Try.prog .add 3 true (.int .i64 (3)) t142) fun t143 =>
  vK (binL Try.prog .mul 3 true (.int .i64 (2)) x10) fun t145 =>
  vK (binL Try.prog .add 3 false t143 t145) fun t146 =>
  vK (ixAddrL none 1 x4 t146) fun t147 =>
  vK (loadV none t147 g) fun t148 =>
  vK (ixAddrL none 1 x4 (.int .i64 (1))) fun t151 =>
  vK (loadV none t151 g) fun t152 =>
  vK (binL Try.prog .mul 3 true (.int .i64 (2)) t152) fun t153 =>
  vK (binL Try.prog .add 3 true (.int .i64 (3)) t153) fun t154 =>
  vK (binL Try.prog .mul 3 true (.int .i64 (2)) x10) fun t156 =>
  vK (binL Try.prog .add 3 false t154 t156) fun t157 =>
  vK (binL Try.prog .add 3 true t157 (.int .i64 (1))) fun t158 =>
  vK (ixAddrL none 1 x4 t158) fun t159 =>
  vK (loadV none t159 g) fun t160 =>
  vK (buildL Try.prog 94 [(0, t148), (1, t160)]) fun t161 =>
  ((oK (buildSliceL Try.prog 25 1 [(0, t161)] g) fun t162 g =>
  ((loadV none t136 g) = some t137 ∧ 
  ((oK (builtinL Try.prog .append [25, 25] [t137, t162] g) fun t163 g =>
  
  vK (fieldAddrL 2 x6) fun t164 =>
  ((gK (storeV 1 t164 t163 g) fun g =>
  
  vK (binL Try.prog .add 3 true x10 (.int .i64 (1))) fun t135 =>
  N10 t135 g) ∧ True)) ∧ True))) ∧ True)) (
  J15_8 x0 x2 x6 g  K)
theorem L15_10_ok (R10 : LV × LV × LV × LV → LV → LHeap → Prop) (K : LV → LHeap → Prop) (tm : Nat → LV) (g : LHeap) (h : L15_10 (tm 0) (tm 2) (tm 4) (tm 6) (tm 10) g (fun s g => R10 ((tm 0), (tm 2), (tm 4), (tm 6)) s g) K) : codeL Try.prog (Ok Try.prog) (nd15 [1, 1, 1, 1, 1, 1, 1, 1, 0, 1, 0, 0]) ⟨tm, g⟩ (roundK (fun tm : Nat → LV => (tm 0, tm 2, tm 4, tm 6)) (fun tm : Nat → LV => tm 10) R10 (exitL 4 (thenL (kj15_8  K) (en15 K)))) := by
  try unfold L15_10 at h
  unfold kj15_8
  generalize @J15_8 = Q15_8 at h ⊢
  refine code3_sound ok_mono (pl := [(23, (.lt 0 false (.lt 1 true (.lt 2 false (.lt 3 false (.lt 4 false (.lt 5 false (.lt 6 false (.lt 7 false (.lt 8 false (.lt 9 false (.lt 10 false (.lt 11 false (.lt 12 false (.lt 13 false (.lt 14 false (.lt 15 false (.lt 16 false (.lt 17 false (.lt 18 false (.lt 19 false (.lt 20 false (.lt 21 false (.lt 22 false (.lt 23 false (.lt 24 false (.lt 25 false (.hv 26 (.hv 27 (.lt 28 false (.hv 29 .nil .nil)) .nil) .nil))))))))))))))))))))))))))))]) _ _ _ (by kernel_rfl) ?_
  refine kmp ?_ h
  generalize Ok Try.prog = C
  unfold en15
  as_aux_lemma => kernel_rfl

noncomputable def J15_9 (x0 x2 x4 x6 x10 : LV) (g : LHeap)  (K : LV → LHeap → Prop) : Prop :=
  loopP (fun s g N => L15_10 x0 x2 x4 x6 s g N  K) x10 g
abbrev kj15_9  (K : LV → LHeap → Prop) : LSt → Prop := fun st => J15_9 (st.tm 0) (st.tm 2) (st.tm 4) (st.tm 6) (st.tm 10) st.g  K
theorem J15_9_ok  (K : LV → LHeap → Prop) (tm : Nat → LV) (g : LHeap) (h : J15_9 (tm 0) (tm 2) (tm 4) (tm 6) (tm 10) g  K) : codeL Try.prog (Ok Try.prog) (nd15 [1, 1, 1, 1, 1, 1, 1, 1, 0, 1]) ⟨tm, g⟩ (thenL (kj15_8  K) (en15 K)) := by
  refine block_i (b := nd15 [1, 1, 1, 1, 1, 1, 1, 1, 0, 1, 0]) (i := 4) (by kernel_rfl) ?_
  exact loop_glue (b := nd15 [1, 1, 1, 1, 1, 1, 1, 1, 0, 1, 0, 0]) (by kernel_rfl) (fun tm : Nat → LV => (tm 0, tm 2, tm 4, tm 6)) (fun tm : Nat → LV => tm 10) (fun a s g N => L15_10 a.1 a.2.1 a.2.2.1 a.2.2.2 s g N  K) (fun tm g R h => L15_10_ok R  K tm g h) tm g h

noncomputable def J15_7 (x0 x2 x4 x6 : LV) (g : LHeap)  (K : LV → LHeap → Prop) : Prop :=
  J15_9 x0 x2 x4 x6 (.int .i64 (0)) g  K
abbrev kj15_7  (K : LV → LHeap → Prop) : LSt → Prop := fun st => J15_7 (st.tm 0) (st.tm 2) (st.tm 4) (st.tm 6) st.g  K
theorem J15_7_ok  (K : LV → LHeap → Prop) (tm : Nat → LV) (g : LHeap) (h : J15_7 (tm 0) (tm 2) (tm 4) (tm 6) g  K) : codeL Try.prog (Ok Try.prog) (nd15 [1, 1, 1, 1, 1, 1, 1, 1]) ⟨tm, g⟩ (en15 K) := by
  refine seq_i (a := nd15 [1, 1, 1, 1, 1, 1, 1, 1, 0]) (b := nd15 [1, 1, 1, 1, 1, 1, 1, 1, 1]) (k' := kj15_8  K) (by kernel_rfl) (fun st h => J15_8_ok  K st.tm st.g h) ?_
  refine seq_i (a := nd15 [1, 1, 1, 1, 1, 1, 1, 1, 0, 0]) (b := nd15 [1, 1, 1, 1, 1, 1, 1, 1, 0, 1]) (k' := kj15_9  K) (by kernel_rfl) (fun st h => J15_9_ok  K st.tm st.g h) ?_
  try unfold J15_7 at h
  unfold kj15_9
  generalize @J15_9 = Q15_9 at h ⊢
  unfold kj15_8
  generalize @J15_8 = Q15_8 at h ⊢
  refine code2_sound ok_mono _ _ _ ?_
  refine kmp ?_ h
  generalize Ok Try.prog = C
  unfold en15
  as_aux_lemma => kernel_rfl

noncomputable def L15_12 (x0 x2 x4 x6 : LV) (x7 x8 : LV) (g : LHeap) (N12 : LV × LV → LHeap → Prop) (K : LV → LHeap → Prop) : Prop :=
  vK (ixAddrL none 1 x4 (.int .i64 (1))) fun t87 =>
  vK (loadV none t87 g) fun t88 =>
  vK (binL Try.prog .lss 3 false x8 t88) fun t89 =>
  ifB t89 (
  vK (binL Try.prog .mul 3 true (.int .i64 (2)) x8) fun t94 =>
  vK (binL Try.prog .add 3 true (.int .i64 (3)) t94) fun t95 =>
  vK (binL Try.prog .add 3 true t95 (.int .i64 (1))) fun t96 =>
  vK (ixAddrL none 1 x4 t96) fun t97 =>
  vK (loadV none t97 g) fun t98 =>
  oK (builtinL Try.prog .len [23] [x0] g) fun t101 g =>
  vK (binL Try.prog .sub 3 false t101 x7) fun t103 =>
  vK (binL Try.prog .gtr 3 false t98 t103) fun t104 =>
  ifB t104 (
  vK (buildL Try.prog 27 []) fun t105 =>
  gK (storeV 3 x2 t105 g) fun g =>
  retC Try.prog [.cell 2 27, .tmp 3] [(2, x2), (3, (.int .i64 (230)))] g K) (
  vK (fieldAddrL 1 x6) fun t106 =>
  vK (loadV none t106 g) fun t107 =>
  vK (binL Try.prog .mul 3 true (.int .i64 (2)) x8) fun t110 =>
  vK (binL Try.prog .add 3 true (.int .i64 (3)) t110) fun t111 =>
  vK (ixAddrL none 1 x4 t111) fun t112 =>
  vK (loadV none t112 g) fun t113 =>
  vK (binL Try.prog .add 3 false x7 t98) fun t119 =>
  vK (cutT Try.prog 23 x0 (some x7) (some t119) none (limL x0 g)) fun t120 =>
  ((oK (buildSliceL Try.prog 23 0 [] g) fun t114 g =>
  ((loadV none t112 g) = some t113 ∧ ((loadV none t106 g) = some t107 ∧ 
  ((oK (builtinL Try.prog .append [23, 23] [t114, t120] g) fun t121 g =>
  ((loadV none t112 g) = some t113 ∧ ((loadV none t106 g) = some t107 ∧ 
  vK (buildL Try.prog 92 [(0, t113), (1, t121)]) fun t122 =>
  ((oK (buildSliceL Try.prog 24 1 [(0, t122)] g) fun t123 g =>
  ((loadV none t106 g) = some t107 ∧ 
  ((oK (builtinL Try.prog .append [24, 24] [t107, t123] g) fun t124 g =>
  
  vK (fieldAddrL 1 x6) fun t125 =>
  ((gK (storeV 1 t125 t124 g) fun g =>
  
  vK (binL Try.prog .add 3 false x7 t98) fun t128 =>
  vK (binL Try.prog .add 3 true x8 (.int .i64 (1))) fun t91 =>
  N12 (t128, t91) g) ∧ True)) ∧ True))) ∧ True)))) ∧ True)))) ∧ True))) (
  J15_7 x0 x2 x4 x6 g  K)
theorem L15_12_ok (R12 : LV × LV × LV × LV → LV × LV → LHeap → Prop) (K : LV → LHeap → Prop) (tm : Nat → LV) (g : LHeap) (h : L15_12 (tm 0) (tm 2) (tm 4) (tm 6) (tm 7) (tm 8) g (fun s g => R12 ((tm 0), (tm 2), (tm 4), (tm 6)) s g) K) : codeL Try.prog (Ok Try.prog) (nd15 [1, 1, 1, 1, 1, 1, 1, 0, 1, 0, 0]) ⟨tm, g⟩ (roundK (fun tm : Nat → LV => (tm 0, tm 2, tm 4, tm 6)) (fun tm : Nat → LV => (tm 7, tm 8)) R12 (exitL 2 (thenL (kj15_7  K) (en15 K)))) := by
  try unfold L15_12 at h
  unfold kj15_7
  generalize @J15_7 = Q15_7 at h ⊢
  refine code3_sound ok_mono (pl := [(18, (.lt 0 false (.lt 1 true (.lt 2 false (.lt 3 false (.lt 4 false (.lt 5 false (.lt 6 false (.lt 7 true (.lt 9 false (.lt 10 false (.lt 11 false (.lt 12 false (.lt 13 false (.lt 14 false (.hv 8 (.hv 15 (.lt 16 false (.hv 17 (.hv 18 (.lt 19 false (.hv 20 .nil .nil)) .nil) .nil)) .nil) .nil))))))))))))))))]) _ _ _ (by kernel_rfl) ?_
  refine kmp ?_ h
  generalize Ok Try.prog = C
  unfold en15
  as_aux_lemma => kernel_rfl

noncomputable def J15_11 (x0 x2 x4 x6 x7 x8 : LV) (g : LHeap)  (K : LV → LHeap → Prop) : Prop :=
  loopP (fun s g N => L15_12 x0 x2 x4 x6 s.1 s.2 g N  K) (x7, x8) g
abbrev kj15_11  (K : LV → LHeap → Prop) : LSt → Prop := fun st => J15_11 (st.tm 0) (st.tm 2) (st.tm 4) (st.tm 6) (st.tm 7) (st.tm 8) st.g  K
theorem J15_11_ok  (K : LV → LHeap → Prop) (tm : Nat → LV) (g : LHeap) (h : J15_11 (tm 0) (tm 2) (tm 4) (tm 6) (tm 7) (tm 8) g  K) : codeL Try.prog (Ok Try.prog) (nd15 [1, 1, 1, 1, 1, 1, 1, 0, 1]) ⟨tm, g⟩ (thenL (kj15_7  K) (en15 K)) := by
  refine block_i (b := nd15 [1, 1, 1, 1, 1, 1, 1, 0, 1, 0]) (i := 2) (by kernel_rfl) ?_
  exact loop_glue (b := nd15 [1, 1, 1, 1, 1, 1, 1, 0, 1, 0, 0]) (by kernel_rfl) (fun tm : Nat → LV => (tm 0, tm 2, tm 4, tm 6)) (fun tm : Nat → LV => (tm 7, tm 8)) (fun a s g N => L15_12 a.1 a.2.1 a.2.2.1 a.2.2.2 s.1 s.2 g N  K) (fun tm g R h => L15_12_ok R  K tm g h) tm g h

noncomputable def J15_6 (x0 x2 x4 x6 x7 : LV) (g : LHeap)  (K : LV → LHeap → Prop) : Prop :=
  J15_11 x0 x2 x4 x6 x7 (.int .i64 (0)) g  K
abbrev kj15_6  (K : LV → LHeap → Prop) : LSt → Prop := fun st => J15_6 (st.tm 0) (st.tm 2) (st.tm 4) (st.tm 6) (st.tm 7) st.g  K
theorem J15_6_ok  (K : LV → LHeap → Prop) (tm : Nat → LV) (g : LHeap) (h : J15_6 (tm 0) (tm 2) (tm 4) (tm 6) (tm 7) g  K) : codeL Try.prog (Ok Try.prog) (nd15 [1, 1, 1, 1, 1, 1, 1]) ⟨tm, g⟩ (en15 K) := by
  refine seq_i (a := nd15 [1, 1, 1, 1, 1, 1, 1, 0]) (b := nd15 [1, 1, 1, 1, 1, 1, 1, 1]) (k' := kj15_7  K) (by kernel_rfl) (fun st h => J15_7_ok  K st.tm st.g h) ?_
  refine seq_i (a := nd15 [1, 1, 1, 1, 1, 1, 1, 0, 0]) (b := nd15 [1, 1, 1, 1, 1, 1, 1, 0, 1]) (k' := kj15_11  K) (by kernel_rfl) (fun st h => J15_11_ok  K st.tm st.g h) ?_
  try unfold J15_6 at h
  unfold kj15_11
  generalize @J15_11 = Q15_11 at h ⊢
  unfold kj15_7
  generalize @J15_7 = Q15_7 at h ⊢
  refine code2_sound ok_mono _ _ _ ?_
  refine kmp ?_ h
  generalize Ok Try.prog = C
  unfold en15
  as_aux_lemma => kernel_rfl

noncomputable def J15_5 (x0 x2 x4 x6 : LV) (g : LHeap)  (K : LV → LHeap → Prop) : Prop :=
  vK (ixAddrL none 1 x4 (.int .i64 (1))) fun t76 =>
  vK (loadV none t76 g) fun t77 =>
  vK (binL Try.prog .mul 3 true (.int .i64 (4)) t77) fun t78 =>
  vK (binL Try.prog .add 3 true (.int .i64 (10)) t78) fun t79 =>
  vK (ixAddrL none 1 x4 (.int .i64 (2))) fun t81 =>
  vK (loadV none t81 g) fun t82 =>
  vK (binL Try.prog .mul 3 true (.int .i64 (4)) t82) fun t83 =>
  vK (binL Try.prog .add 3 false t79 t83) fun t84 =>
  J15_6 x0 x2 x4 x6 t84 g  K
abbrev kj15_5  (K : LV → LHeap → Prop) : LSt → Prop := fun st => J15_5 (st.tm 0) (st.tm 2) (st.tm 4) (st.tm 6) st.g  K
theorem J15_5_ok  (K : LV → LHeap → Prop) (tm : Nat → LV) (g : LHeap) (h : J15_5 (tm 0) (tm 2) (tm 4) (tm 6) g  K) : codeL Try.prog (Ok Try.prog) (nd15 [1, 1, 1, 1, 1, 1]) ⟨tm, g⟩ (en15 K) := by
  refine seq_i (a := nd15 [1, 1, 1, 1, 1, 1, 0]) (b := nd15 [1, 1, 1, 1, 1, 1, 1]) (k' := kj15_6  K) (by kernel_rfl) (fun st h => J15_6_ok  K st.tm st.g h) ?_
  try unfold J15_5 at h
  unfold kj15_6
  generalize @J15_6 = Q15_6 at h ⊢
  refine code2_sound ok_mono _ _ _ ?_
  refine kmp ?_ h
  generalize Ok Try.prog = C
  unfold en15
  as_aux_lemma => kernel_rfl

noncomputable def J15_4 (x0 x2 x4 : LV) (g : LHeap)  (K : LV → LHeap → Prop) : Prop :=
  vK (ixAddrL none 1 x4 (.int .i64 (0))) fun t72 =>
  vK (loadV none t72 g) fun t73 =>
  vK (buildL Try.prog 27 [(0, t73)]) fun t74 =>
  oK (newL (.agg [(.int .i64 (0)), .nils, .nils]) g) fun t6 g =>
  gK (storeV 3 t6 t74 g) fun g =>
  J15_5 x0 x2 x4 t6 g  K
abbrev kj15_4  (K : LV → LHeap → Prop) : LSt → Prop := fun st => J15_4 (st.tm 0) (st.tm 2) (st.tm 4) st.g  K
theorem J15_4_ok  (K : LV → LHeap → Prop) (tm : Nat → LV) (g : LHeap) (h : J15_4 (tm 0) (tm 2) (tm 4) g  K) : codeL Try.prog (Ok Try.prog) (nd15 [1, 1, 1, 1, 1]) ⟨tm, g⟩ (en15 K) := by
  refine seq_i (a := nd15 [1, 1, 1, 1, 1, 0]) (b := nd15 [1, 1, 1, 1, 1, 1]) (k' := kj15_5  K) (by kernel_rfl) (fun st h => J15_5_ok  K st.tm st.g h) ?_
  try unfold J15_4 at h
  unfold kj15_5
  generalize @J15_5 = Q15_5 at h ⊢
  refine code2_sound ok_mono _ _ _ ?_
  refine kmp ?_ h
  generalize Ok Try.prog = C
  unfold en15
  as_aux_lemma => kernel_rfl

noncomputable def J15_3 (x0 x2 x4 : LV) (g : LHeap)  (K : LV → LHeap → Prop) : Prop :=
  vK (ixAddrL none 1 x4 (.int .i64 (1))) fun t46 =>
  vK (loadV none t46 g) fun t47 =>
  vK (binL Try.prog .gtr 3 true t47 (.int .i64 (16))) fun t48 =>
  gdV t48 false (some x4) fun t50 =>
  gdV t48 false (ixAddrL none 1 t50 (.int .i64 (2))) fun t51 =>
  gdV t48 false (loadV none t51 g) fun t52 =>
  gdV t48 false (binL Try.prog .gtr 3 true t52 (.int .i64 (16))) fun t53 =>
  vK (pickL t48 (.bool true) t53) fun t54 =>
  gdV t54 false (some x0) fun t56 =>
  gdV t54 false (lenL Try.prog 23 t56 g) fun t57 =>
  gdV t54 false (some x4) fun t58 =>
  gdV t54 false (ixAddrL none 1 t58 (.int .i64 (1))) fun t59 =>
  gdV t54 false (loadV none t59 g) fun t60 =>
  gdV t54 false (binL Try.prog .mul 3 true (.int .i64 (4)) t60) fun t61 =>
  gdV t54 false (binL Try.prog .add 3 true (.int .i64 (10)) t61) fun t62 =>
  gdV t54 false (some x4) fun t63 =>
  gdV t54 false (ixAddrL none 1 t63 (.int .i64 (2))) fun t64 =>
  gdV t54 false (loadV none t64 g) fun t65 =>
  gdV t54 false (binL Try.prog .mul 3 true (.int .i64 (4)) t65) fun t66 =>
  gdV t54 false (binL Try.prog .add 3 false t62 t66) fun t67 =>
  gdV t54 false (binL Try.prog .lss 3 false t57 t67) fun t68 =>
  vK (pickL t54 (.bool true) t68) fun t69 =>
  ifB t69 (
  vK (buildL Try.prog 27 []) fun t70 =>
  gK (storeV 3 x2 t70 g) fun g =>
  retC Try.prog [.cell 2 27, .tmp 3] [(2, x2), (3, (.int .i64 (230)))] g K) (
  J15_4 x0 x2 x4 g  K)
abbrev kj15_3  (K : LV → LHeap → Prop) : LSt → Prop := fun st => J15_3 (st.tm 0) (st.tm 2) (st.tm 4) st.g  K
theorem J15_3_ok  (K : LV → LHeap → Prop) (tm : Nat → LV) (g : LHeap) (h : J15_3 (tm 0) (tm 2) (tm 4) g  K) : codeL Try.prog (Ok Try.prog) (nd15 [1, 1, 1, 1]) ⟨tm, g⟩ (en15 K) := by
  refine seq_i (a := nd15 [1, 1, 1, 1, 0]) (b := nd15 [1, 1, 1, 1, 1]) (k' := kj15_4  K) (by kernel_rfl) (fun st h => J15_4_ok  K st.tm st.g h) ?_
  try unfold J15_3 at h
  unfold kj15_4
  generalize @J15_4 = Q15_4 at h ⊢
  refine code3_sound ok_mono (pl := [(8, (.lt 0 false (.lt 1 false (.lt 2 false (.lt 3 false (.lt 4 false (.lt 5 false (.lt 6 false (.lt 7 false (.lt 8 false (.lt 9 false (.lt 10 false (.lt 11 false (.lt 12 false (.lt 13 false (.lt 14 false (.lt 15 false (.lt 16 false (.lt 17 false (.lt 18 false (.lt 19 false (.lt 20 false (.lt 21 false (.lt 22 false (.lt 23 false (.lt 24 false .nil))))))))))))))))))))))))))]) _ _ _ (by kernel_rfl) ?_
  refine kmp ?_ h
  generalize Ok Try.prog = C
  unfold en15
  as_aux_lemma => kernel_rfl

noncomputable def L15_14 (x0 x2 : LV) (x4 x5 : LV) (g : LHeap) (N14 : LV × LV → LHeap → Prop) (K : LV → LHeap → Prop) : Prop :=
  vK (binL Try.prog .add 3 true x5 (.int .i64 (1))) fun t23 =>
  oK (builtinL Try.prog .len [23] [x0] g) fun t25 g =>
  vK (binL Try.prog .lss 3 false t23 t25) fun t26 =>
  ifB t26 (
  vK (ixAddrL none 1 x0 x5) fun t32 =>
  vK (loadV none t32 g) fun t33 =>
  vK (convLightL Try.prog 5 3 t33 g) fun t34 =>
  vK (binL Try.prog .add 3 true x5 (.int .i64 (1))) fun t37 =>
  vK (ixAddrL none 1 x0 t37) fun t38 =>
  vK (loadV none t38 g) fun t39 =>
  vK (convLightL Try.prog 5 3 t39 g) fun t40 =>
  vK (binL Try.prog .mul 3 true (.int .i64 (256)) t40) fun t41 =>
  vK (binL Try.prog .add 3 false t34 t41) fun t42 =>
  ((oK (buildSliceL Try.prog 51 1 [(0, t42)] g) fun t43 g =>
  
  ((oK (builtinL Try.prog .append [51, 51] [x4, t43] g) fun t44 g =>
  
  vK (binL Try.prog .add 3 true x5 (.int .i64 (2))) fun t28 =>
  N14 (t44, t28) g) ∧ True)) ∧ True)) (
  J15_3 x0 x2 x4 g  K)
theorem L15_14_ok (R14 : LV × LV → LV × LV → LHeap → Prop) (K : LV → LHeap → Prop) (tm : Nat → LV) (g : LHeap) (h : L15_14 (tm 0) (tm 2) (tm 4) (tm 5) g (fun s g => R14 ((tm 0), (tm 2)) s g) K) : codeL Try.prog (Ok Try.prog) (nd15 [1, 1, 1, 0, 1, 0, 0]) ⟨tm, g⟩ (roundK (fun tm : Nat → LV => (tm 0, tm 2)) (fun tm : Nat → LV => (tm 4, tm 5)) R14 (exitL 0 (thenL (kj15_3  K) (en15 K)))) := by
  try unfold L15_14 at h
  unfold kj15_3
  generalize @J15_3 = Q15_3 at h ⊢
  refine code3_sound ok_mono (pl := [(7, (.lt 0 false (.lt 1 false (.lt 2 false (.lt 3 false (.lt 4 false (.lt 5 false (.lt 6 false (.lt 7 false (.lt 8 false (.lt 9 false (.lt 10 false (.lt 11 false (.lt 12 false (.lt 13 false (.hv 14 (.hv 15 (.lt 16 false .nil) .nil) .nil))))))))))))))))]) _ _ _ (by kernel_rfl) ?_
  refine kmp ?_ h
  generalize Ok Try.prog = C
  unfold en15
  as_aux_lemma => kernel_rfl

noncomputable def J15_13 (x0 x2 x4 x5 : LV) (g : LHeap)  (K : LV → LHeap → Prop) : Prop :=
  loopP (fun s g N => L15_14 x0 x2 s.1 s.2 g N  K) (x4, x5) g
abbrev kj15_13  (K : LV → LHeap → Prop) : LSt → Prop := fun st => J15_13 (st.tm 0) (st.tm 2) (st.tm 4) (st.tm 5) st.g  K
theorem J15_13_ok  (K : LV → LHeap → Prop) (tm : Nat → LV) (g : LHeap) (h : J15_13 (tm 0) (tm 2) (tm 4) (tm 5) g  K) : codeL Try.prog (Ok Try.prog) (nd15 [1, 1, 1, 0, 1]) ⟨tm, g⟩ (thenL (kj15_3  K) (en15 K)) := by
  refine block_i (b := nd15 [1, 1, 1, 0, 1, 0]) (i := 0) (by kernel_rfl) ?_
  exact loop_glue (b := nd15 [1, 1, 1, 0, 1, 0, 0]) (by kernel_rfl) (fun tm : Nat → LV => (tm 0, tm 2)) (fun tm : Nat → LV => (tm 4, tm 5)) (fun a s g N => L15_14 a.1 a.2 s.1 s.2 g N  K) (fun tm g R h => L15_14_ok R  K tm g h) tm g h

noncomputable def J15_2 (x0 x2 x4 : LV) (g : LHeap)  (K : LV → LHeap → Prop) : Prop :=
  J15_13 x0 x2 x4 (.int .i64 (4)) g  K
abbrev kj15_2  (K : LV → LHeap → Prop) : LSt → Prop := fun st => J15_2 (st.tm 0) (st.tm 2) (st.tm 4) st.g  K
theorem J15_2_ok  (K : LV → LHeap → Prop) (tm : Nat → LV) (g : LHeap) (h : J15_2 (tm 0) (tm 2) (tm 4) g  K) : codeL Try.prog (Ok Try.prog) (nd15 [1, 1, 1]) ⟨tm, g⟩ (en15 K) := by
  refine seq_i (a := nd15 [1, 1, 1, 0]) (b := nd15 [1, 1, 1, 1]) (k' := kj15_3  K) (by kernel_rfl) (fun st h => J15_3_ok  K st.tm st.g h) ?_
  refine seq_i (a := nd15 [1, 1, 1, 0, 0]) (b := nd15 [1, 1, 1, 0, 1]) (k' := kj15_13  K) (by kernel_rfl) (fun st h => J15_13_ok  K st.tm st.g h) ?_
  try unfold J15_2 at h
  unfold kj15_13
  generalize @J15_13 = Q15_13 at h ⊢
  unfold kj15_3
  generalize @J15_3 = Q15_3 at h ⊢
  refine code2_sound ok_mono _ _ _ ?_
  refine kmp ?_ h
  generalize Ok Try.prog = C
  unfold en15
  as_aux_lemma => kernel_rfl

noncomputable def J15_1 (x0 x2 : LV) (g : LHeap)  (K : LV → LHeap → Prop) : Prop :=
  J15_2 x0 x2 .nils g  K
abbrev kj15_1  (K : LV → LHeap → Prop) : LSt → Prop := fun st => J15_1 (st.tm 0) (st.tm 2) st.g  K
theorem J15_1_ok  (K : LV → LHeap → Prop) (tm : Nat → LV) (g : LHeap) (h : J15_1 (tm 0) (tm 2) g  K) : codeL Try.prog (Ok Try.prog) (nd15 [1, 1]) ⟨tm, g⟩ (en15 K) := by
  refine seq_i (a := nd15 [1, 1, 0]) (b := nd15 [1, 1, 1]) (k' := kj15_2  K) (by kernel_rfl) (fun st h => J15_2_ok  K st.tm st.g h) ?_
  try unfold J15_1 at h
  unfold kj15_2
  generalize @J15_2 = Q15_2 at h ⊢
  refine code2_sound ok_mono _ _ _ ?_
  refine kmp ?_ h
  generalize Ok Try.prog = C
  unfold en15
  as_aux_lemma => kernel_rfl

noncomputable def J15_0 (x0 x2 : LV) (g : LHeap)  (K : LV → LHeap → Prop) : Prop :=
  oK (builtinL Try.prog .len [23] [x0] g) fun t14 g =>
  vK (binL Try.prog .lss 3 true t14 (.int .i64 (10))) fun t15 =>
  gd t15 false g (fun K => K x0 g) fun t17 g =>
  gd t15 false g (fun K => oK (builtinL Try.prog .len [23] [t17] g) K) fun t18 g =>
  gd t15 false g (fun K => vK (binL Try.prog .gtr 3 true t18 (.int .i64 (16384))) fun v => K v g) fun t19 g =>
  vK (pickL t15 (.bool true) t19) fun t20 =>
  ifB t20 (
  vK (buildL Try.prog 27 []) fun t21 =>
  gK (storeV 3 x2 t21 g) fun g =>
  retC Try.prog [.cell 2 27, .tmp 3] [(2, x2), (3, (.int .i64 (230)))] g K) (
  J15_1 x0 x2 g  K)
abbrev kj15_0  (K : LV → LHeap → Prop) : LSt → Prop := fun st => J15_0 (st.tm 0) (st.tm 2) st.g  K
theorem J15_0_ok  (K : LV → LHeap → Prop) (tm : Nat → LV) (g : LHeap) (h : J15_0 (tm 0) (tm 2) g  K) : codeL Try.prog (Ok Try.prog) (nd15 [1]) ⟨tm, g⟩ (en15 K) := by
  refine seq_i (a := nd15 [1, 0]) (b := nd15 [1, 1]) (k' := kj15_1  K) (by kernel_rfl) (fun st h => J15_1_ok  K st.tm st.g h) ?_
  try unfold J15_0 at h
  unfold kj15_1
  generalize @J15_1 = Q15_1 at h ⊢
  refine code2_sound ok_mono _ _ _ ?_
  refine kmp ?_ h
  generalize Ok Try.prog = C
  unfold en15
  as_aux_lemma => kernel_rfl

noncomputable def F15 (x0 : LV) (g : LHeap) (K : LV → LHeap → Prop) : Prop :=
  oK (newL (.agg [(.int .i64 (0)), .nils, .nils]) g) fun t2 g =>
  J15_0 x0 t2 g  K
theorem ok15 {x0 : LV} {g : LHeap} {K : LV → LHeap → Prop} (h : g.Wf → (∀ v ∈ ([x0] : List LV), ∀ b ∈ v.objs, b < g.next) → F15 x0 g K) : Ok Try.prog 15 [x0] g K := by
  refine ok_fw Try.mixed Try.func15 (by kernel_rfl) (by kernel_rfl) (c := nd15 []) (by kernel_rfl) fun wf lt => ?_
  rw [← en15_eq]
  replace h := h wf lt
  generalize hs : startL _ = tm
  replace h : F15 (tm 0) g K := by rw [← hs]; exact h
  refine seq_i (a := nd15 [0]) (b := nd15 [1]) (k' := kj15_0  K) (by kernel_rfl) (fun st h => J15_0_ok  K st.tm st.g h) ?_
  try unfold F15 at h
  unfold kj15_0
  generalize @J15_0 = Q15_0 at h ⊢
  refine code2_sound ok_mono _ _ _ ?_
  refine kmp ?_ h
  generalize Ok Try.prog = C
  unfold en15
  as_aux_lemma => kernel_rfl

/-! parapet/parapetlaw23.Same (85 slots) -/
noncomputable def en17 (K : LV → LHeap → Prop) : LEx → LSt → Prop := fun e st => match e with
  | .exit _ => False
  | _ => K (st.tm 4) st.g
theorem en17_eq (K : LV → LHeap → Prop) : en17 K = endL Try.prog Try.f17 K := by
  funext e st
  cases e <;> kernel_rfl
noncomputable def nd17 (p : List Nat) : Code := subC p (bodyC Try.prog 17)
noncomputable def J17_3 (g : LHeap)  (K : LV → LHeap → Prop) : Prop :=
  K (.bool true) g
abbrev kj17_3  (K : LV → LHeap → Prop) : LSt → Prop := fun st => J17_3  st.g  K
theorem J17_3_ok  (K : LV → LHeap → Prop) (tm : Nat → LV) (g : LHeap) (h : J17_3  g  K) : codeL Try.prog (Ok Try.prog) (nd17 [1, 1, 1, 1]) ⟨tm, g⟩ (en17 K) := by
  try unfold J17_3 at h
  refine code2_sound ok_mono _ _ _ ?_
  refine kmp ?_ h
  generalize Ok Try.prog = C
  unfold en17
  as_aux_lemma => kernel_rfl

noncomputable def L17_5 (x2 x3 : LV) (x6 : LV) (g : LHeap) (N5 : LV → LHeap → Prop) (K : LV → LHeap → Prop) : Prop :=
  vK (fieldAddrL 2 x2) fun t68 =>
  vK (loadV none t68 g) fun t69 =>
  oK (builtinL Try.prog .len [25] [t69] g) fun t70 g =>
  vK (binL Try.prog .lss 3 false x6 t70) fun t71 =>
  ifB t71 (
  vK (fieldAddrL 2 x2) fun t74 =>
  vK (loadV none t74 g) fun t75 =>
  vK (ixAddrL none 2 t75 x6) fun t77 =>
  vK (loadV (some 2) t77 g) fun t78 =>
  vK (fieldAddrL 2 x3) fun t79 =>
  vK (loadV none t79 g) fun t80 =>
  vK (ixAddrL none 2 t80 x6) fun t82 =>
  vK (loadV (some 2) t82 g) fun t83 =>
  vK (binL Try.prog .neq 94 false t78 t83) fun t84 =>
  ifB t84 (
  K (.bool false) g) (
  vK (binL Try.prog .add 3 true x6 (.int .i64 (1))) fun t73 =>
  N5 t73 g)) (
  J17_3  g  K)
theorem L17_5_ok (R5 : LV × LV → LV → LHeap → Prop) (K : LV → LHeap → Prop) (tm : Nat → LV) (g : LHeap) (h : L17_5 (tm 2) (tm 3) (tm 6) g (fun s g => R5 ((tm 2), (tm 3)) s g) K) : codeL Try.prog (Ok Try.prog) (nd17 [1, 1, 1, 0, 1, 0, 0]) ⟨tm, g⟩ (roundK (fun tm : Nat → LV => (tm 2, tm 3)) (fun tm : Nat → LV => tm 6) R5 (exitL 2 (thenL (kj17_3  K) (en17 K)))) := by
  try unfold L17_5 at h
  unfold kj17_3
  generalize @J17_3 = Q17_3 at h ⊢
  refine code2_sound ok_mono _ _ _ ?_
  refine kmp ?_ h
  generalize Ok Try.prog = C
  unfold en17
  as_aux_lemma => kernel_rfl

noncomputable def J17_4 (x2 x3 x6 : LV) (g : LHeap)  (K : LV → LHeap → Prop) : Prop :=
  loopP (fun s g N => L17_5 x2 x3 s g N  K) x6 g
abbrev kj17_4  (K : LV → LHeap → Prop) : LSt → Prop := fun st => J17_4 (st.tm 2) (st.tm 3) (st.tm 6) st.g  K
theorem J17_4_ok  (K : LV → LHeap → Prop) (tm : Nat → LV) (g : LHeap) (h : J17_4 (tm 2) (tm 3) (tm 6) g  K) : codeL Try.prog (Ok Try.prog) (nd17 [1, 1, 1, 0, 1]) ⟨tm, g⟩ (thenL (kj17_3  K) (en17 K)) := by
  refine block_i (b := nd17 [1, 1, 1, 0, 1, 0]) (i := 2) (by kernel_rfl) ?_
  exact loop_glue (b := nd17 [1, 1, 1, 0, 1, 0, 0]) (by kernel_rfl) (fun tm : Nat → LV => (tm 2, tm 3)) (fun tm : Nat → LV => tm 6) (fun a s g N => L17_5 a.1 a.2 s g N  K) (fun tm g R h => L17_5_ok R  K tm g h) tm g h

noncomputable def J17_2 (x2 x3 : LV) (g : LHeap)  (K : LV → LHeap → Prop) : Prop :=
  J17_4 x2 x3 (.int .i64 (0)) g  K
abbrev kj17_2  (K : LV → LHeap → Prop) : LSt → Prop := fun st => J17_2 (st.tm 2) (st.tm 3) st.g  K
theorem J17_2_ok  (K : LV → LHeap → Prop) (tm : Nat → LV) (g : LHeap) (h : J17_2 (tm 2) (tm 3) g  K) : codeL Try.prog (Ok Try.prog) (nd17 [1, 1, 1]) ⟨tm, g⟩ (en17 K) := by
  refine seq_i (a := nd17 [1, 1, 1, 0]) (b := nd17 [1, 1, 1, 1]) (k' := kj17_3  K) (by kernel_rfl) (fun st h => J17_3_ok  K st.tm st.g h) ?_
  refine seq_i (a := nd17 [1, 1, 1, 0, 0]) (b := nd17 [1, 1, 1, 0, 1]) (k' := kj17_4  K) (by kernel_rfl) (fun st h => J17_4_ok  K st.tm st.g h) ?_
  try unfold J17_2 at h
  unfold kj17_4
  generalize @J17_4 = Q17_4 at h ⊢
  unfold kj17_3
  generalize @J17_3 = Q17_3 at h ⊢
  refine code2_sound ok_mono _ _ _ ?_
  refine kmp ?_ h
  generalize Ok Try.prog = C
  unfold en17
  as_aux_lemma => kernel_rfl

noncomputable def L17_7 (x2 x3 : LV) (x5 : LV) (g : LHeap) (N7 : LV → LHeap → Prop) (K : LV → LHeap → Prop) : Prop :=
  vK (fieldAddrL 1 x2) fun t31 =>
  vK (loadV none t31 g) fun t32 =>
  oK (builtinL Try.prog .len [24] [t32] g) fun t33 g =>
  vK (binL Try.prog .lss 3 false x5 t33) fun t34 =>
  ifB t34 (
  vK (fieldAddrL 1 x2) fun t37 =>
  vK (loadV none t37 g) fun t38 =>
  vK (ixAddrL none 2 t38 x5) fun t40 =>
  vK (fieldAddrL 0 t40) fun t41 =>
  vK (loadV none t41 g) fun t42 =>
  vK (fieldAddrL 1 x3) fun t43 =>
  vK (loadV none t43 g) fun t44 =>
  vK (ixAddrL none 2 t44 x5) fun t46 =>
  vK (fieldAddrL 0 t46) fun t47 =>
  vK (loadV none t47 g) fun t48 =>
  vK (binL Try.prog .neq 3 false t42 t48) fun t49 =>
  gdV t49 false (fieldAddrL 1 x2) fun t51 =>
  gdV t49 false (loadV none t51 g) fun t52 =>
  gdV t49 false (some x5) fun t53 =>
  gdV t49 false (ixAddrL none 2 t52 t53) fun t54 =>
  gdV t49 false (fieldAddrL 1 t54) fun t55 =>
  gdV t49 false (loadV none t55 g) fun t56 =>
  gdV t49 false (convLightL Try.prog 23 9 t56 g) fun t57 =>
  gdV t49 false (fieldAddrL 1 x3) fun t58 =>
  gdV t49 false (loadV none t58 g) fun t59 =>
  gdV t49 false (some x5) fun t60 =>
  gdV t49 false (ixAddrL none 2 t59 t60) fun t61 =>
  gdV t49 false (fieldAddrL 1 t61) fun t62 =>
  gdV t49 false (loadV none t62 g) fun t63 =>
  gdV t49 false (convLightL Try.prog 23 9 t63 g) fun t64 =>
  gdV t49 false (binL Try.prog .neq 9 false t57 t64) fun t65 =>
  vK (pickL t49 (.bool true) t65) fun t66 =>
  ifB t66 (
  K (.bool false) g) (
  vK (binL Try.prog .add 3 true x5 (.int .i64 (1))) fun t36 =>
  N7 t36 g)) (
  J17_2 x2 x3 g  K)
theorem L17_7_ok (R7 : LV × LV → LV → LHeap → Prop) (K : LV → LHeap → Prop) (tm : Nat → LV) (g : LHeap) (h : L17_7 (tm 2) (tm 3) (tm 5) g (fun s g => R7 ((tm 2), (tm 3)) s g) K) : codeL Try.prog (Ok Try.prog) (nd17 [1, 1, 0, 1, 0, 0]) ⟨tm, g⟩ (roundK (fun tm : Nat → LV => (tm 2, tm 3)) (fun tm : Nat → LV => tm 5) R7 (exitL 0 (thenL (kj17_2  K) (en17 K)))) := by
  try unfold L17_7 at h
  unfold kj17_2
  generalize @J17_2 = Q17_2 at h ⊢
  refine code3_sound ok_mono (pl := [(6, (.lt 0 false (.lt 1 false (.lt 2 false (.lt 3 false (.lt 4 false (.lt 5 false (.lt 6 false (.lt 7 false (.lt 8 false (.lt 9 false (.lt 10 false (.lt 11 false (.lt 12 false (.lt 13 false (.lt 14 false (.lt 15 false (.lt 16 false (.lt 17 false (.lt 18 false (.lt 19 false (.lt 20 false (.lt 21 false (.lt 22 false (.lt 23 false (.lt 24 false (.lt 25 false (.lt 26 false (.lt 27 false (.lt 28 false (.lt 29 false .nil)))))))))))))))))))))))))))))))]) _ _ _ (by kernel_rfl) ?_
  refine kmp ?_ h
  generalize Ok Try.prog = C
  unfold en17
  as_aux_lemma => kernel_rfl

noncomputable def J17_6 (x2 x3 x5 : LV) (g : LHeap)  (K : LV → LHeap → Prop) : Prop :=
  loopP (fun s g N => L17_7 x2 x3 s g N  K) x5 g
abbrev kj17_6  (K : LV → LHeap → Prop) : LSt → Prop := fun st => J17_6 (st.tm 2) (st.tm 3) (st.tm 5) st.g  K
theorem J17_6_ok  (K : LV → LHeap → Prop) (tm : Nat → LV) (g : LHeap) (h : J17_6 (tm 2) (tm 3) (tm 5) g  K) : codeL Try.prog (Ok Try.prog) (nd17 [1, 1, 0, 1]) ⟨tm, g⟩ (thenL (kj17_2  K) (en17 K)) := by
  refine block_i (b := nd17 [1, 1, 0, 1, 0]) (i := 0) (by kernel_rfl) ?_
  exact loop_glue (b := nd17 [1, 1, 0, 1, 0, 0]) (by kernel_rfl) (fun tm : Nat → LV => (tm 2, tm 3)) (fun tm : Nat → LV => tm 5) (fun a s g N => L17_7 a.1 a.2 s g N  K) (fun tm g R h => L17_7_ok R  K tm g h) tm g h

noncomputable def J17_1 (x2 x3 : LV) (g : LHeap)  (K : LV → LHeap → Prop) : Prop :=
  J17_6 x2 x3 (.int .i64 (0)) g  K
abbrev kj17_1  (K : LV → LHeap → Prop) : LSt → Prop := fun st => J17_1 (st.tm 2) (st.tm 3) st.g  K
theorem J17_1_ok  (K : LV → LHeap → Prop) (tm : Nat → LV) (g : LHeap) (h : J17_1 (tm 2) (tm 3) g  K) : codeL Try.prog (Ok Try.prog) (nd17 [1, 1]) ⟨tm, g⟩ (en17 K) := by
  refine seq_i (a := nd17 [1, 1, 0]) (b := nd17 [1, 1, 1]) (k' := kj17_2  K) (by kernel_rfl) (fun st h => J17_2_ok  K st.tm st.g h) ?_
  refine seq_i (a := nd17 [1, 1, 0, 0]) (b := nd17 [1, 1, 0, 1]) (k' := kj17_6  K) (by kernel_rfl) (fun st h => J17_6_ok  K st.tm st.g h) ?_
  try unfold J17_1 at h
  unfold kj17_6
  generalize @J17_6 = Q17_6 at h ⊢
  unfold kj17_2
  generalize @J17_2 = Q17_2 at h ⊢
  refine code2_sound ok_mono _ _ _ ?_
  refine kmp ?_ h
  generalize Ok Try.prog = C
  unfold en17
  as_aux_lemma => kernel_rfl

noncomputable def J17_0 (x2 x3 : LV) (g : LHeap)  (K : LV → LHeap → Prop) : Prop :=
  vK (fieldAddrL 0 x2) fun t7 =>
  vK (loadV none t7 g) fun t8 =>
  vK (fieldAddrL 0 x3) fun t9 =>
  vK (loadV none t9 g) fun t10 =>
  vK (binL Try.prog .neq 3 false t8 t10) fun t11 =>
  gd t11 false g (fun K => vK (fieldAddrL 1 x2) fun v => K v g) fun t13 g =>
  gd t11 false g (fun K => vK (loadV none t13 g) fun v => K v g) fun t14 g =>
  gd t11 false g (fun K => oK (builtinL Try.prog .len [24] [t14] g) K) fun t15 g =>
  gd t11 false g (fun K => vK (fieldAddrL 1 x3) fun v => K v g) fun t16 g =>
  gd t11 false g (fun K => vK (loadV none t16 g) fun v => K v g) fun t17 g =>
  gd t11 false g (fun K => oK (builtinL Try.prog .len [24] [t17] g) K) fun t18 g =>
  gd t11 false g (fun K => vK (binL Try.prog .neq 3 false t15 t18) fun v => K v g) fun t19 g =>
  vK (pickL t11 (.bool true) t19) fun t20 =>
  gd t20 false g (fun K => vK (fieldAddrL 2 x2) fun v => K v g) fun t22 g =>
  gd t20 false g (fun K => vK (loadV none t22 g) fun v => K v g) fun t23 g =>
  gd t20 false g (fun K => oK (builtinL Try.prog .len [25] [t23] g) K) fun t24 g =>
  gd t20 false g (fun K => vK (fieldAddrL 2 x3) fun v => K v g) fun t25 g =>
  gd t20 false g (fun K => vK (loadV none t25 g) fun v => K v g) fun t26 g =>
  gd t20 false g (fun K => oK (builtinL Try.prog .len [25] [t26] g) K) fun t27 g =>
  gd t20 false g (fun K => vK (binL Try.prog .neq 3 false t24 t27) fun v => K v g) fun t28 g =>
  vK (pickL t20 (.bool true) t28) fun t29 =>
  ifB t29 (
  K (.bool false) g) (
  J17_1 x2 x3 g  K)
abbrev kj17_0  (K : LV → LHeap → Prop) : LSt → Prop := fun st => J17_0 (st.tm 2) (st.tm 3) st.g  K
theorem J17_0_ok  (K : LV → LHeap → Prop) (tm : Nat → LV) (g : LHeap) (h : J17_0 (tm 2) (tm 3) g  K) : codeL Try.prog (Ok Try.prog) (nd17 [1]) ⟨tm, g⟩ (en17 K) := by
  refine seq_i (a := nd17 [1, 0]) (b := nd17 [1, 1]) (k' := kj17_1  K) (by kernel_rfl) (fun st h => J17_1_ok  K st.tm st.g h) ?_
  try unfold J17_0 at h
  unfold kj17_1
  generalize @J17_1 = Q17_1 at h ⊢
  refine code2_sound ok_mono _ _ _ ?_
  refine kmp ?_ h
  generalize Ok Try.prog = C
  unfold en17
  as_aux_lemma => kernel_rfl

noncomputable def F17 (x0 x1 : LV) (g : LHeap) (K : LV → LHeap → Prop) : Prop :=
  oK (newL x0 g) fun t2 g =>
  oK (newL x1 g) fun t3 g =>
  J17_0 t2 t3 g  K
theorem ok17 {x0 x1 : LV} {g : LHeap} {K : LV → LHeap → Prop} (h : g.Wf → (∀ v ∈ ([x0, x1] : List LV), ∀ b ∈ v.objs, b < g.next) → F17 x0 x1 g K) : Ok Try.prog 17 [x0, x1] g K := by
  refine ok_fw Try.mixed Try.func17 (by kernel_rfl) (by kernel_rfl) (c := nd17 []) (by kernel_rfl) fun wf lt => ?_
  rw [← en17_eq]
  replace h := h wf lt
  generalize hs : startL _ = tm
  replace h : F17 (tm 0) (tm 1) g K := by rw [← hs]; exact h
  refine seq_i (a := nd17 [0]) (b := nd17 [1]) (k' := kj17_0  K) (by kernel_rfl) (fun st h => J17_0_ok  K st.tm st.g h) ?_
  try unfold F17 at h
  unfold kj17_0
  generalize @J17_0 = Q17_0 at h ⊢
  refine code2_sound ok_mono _ _ _ ?_
  refine kmp ?_ h
  generalize Ok Try.prog = C
  unfold en17
  as_aux_lemma => kernel_rfl

/-! parapet/image.regions (29 slots) -/
noncomputable def en71 (K : LV → LHeap → Prop) : LEx → LSt → Prop := fun e st => match e with
  | .exit _ => False
  | _ => K (st.tm 2) st.g
theorem en71_eq (K : LV → LHeap → Prop) : en71 K = endL Try.prog Try.f71 K := by
  funext e st
  cases e <;> kernel_rfl
noncomputable def nd71 (p : List Nat) : Code := subC p (bodyC Try.prog 71)
noncomputable def J71_2 (x1 x3 : LV) (g : LHeap)  (K : LV → LHeap → Prop) : Prop :=
  vK (fieldAddrL 2 x1) fun t26 =>
  vK (loadV none t26 g) fun t27 =>
  oK (builtinL Try.prog .append [25, 25] [x3, t27] g) fun t28 g =>
  K t28 g
abbrev kj71_2  (K : LV → LHeap → Prop) : LSt → Prop := fun st => J71_2 (st.tm 1) (st.tm 3) st.g  K
theorem J71_2_ok  (K : LV → LHeap → Prop) (tm : Nat → LV) (g : LHeap) (h : J71_2 (tm 1) (tm 3) g  K) : codeL Try.prog (Ok Try.prog) (nd71 [1, 1, 1]) ⟨tm, g⟩ (en71 K) := by
  try unfold J71_2 at h
  refine code2_sound ok_mono _ _ _ ?_
  refine kmp ?_ h
  generalize Ok Try.prog = C
  unfold en71
  as_aux_lemma => kernel_rfl

noncomputable def L71_4 (x1 x7 x8 : LV) (x3 x9 : LV) (g : LHeap) (N4 : LV × LV → LHeap → Prop) (K : LV → LHeap → Prop) : Prop :=
  vK (binL Try.prog .lss 3 false x9 x8) fun t10 =>
  ifB t10 (
  vK (ixAddrL none 2 x7 x9) fun t11 =>
  vK (loadV (some 2) t11 g) fun t12 =>
  oK (newL (.agg [(.int .i64 (0)), .nils]) g) fun t5 g =>
  gK (storeV 2 t5 t12 g) fun g =>
  vK (fieldAddrL 0 t5) fun t14 =>
  vK (loadV none t14 g) fun t15 =>
  vK (binL Try.prog .quo 3 true t15 (.int .i64 (256))) fun t16 =>
  vK (fieldAddrL 1 t5) fun t17 =>
  vK (loadV none t17 g) fun t18 =>
  vK (lenL Try.prog 23 t18 g) fun t19 =>
  ((Ok Try.prog 69 [t19] g fun t20 g =>
  ((loadV none t14 g) = some t15 ∧ 
  vK (buildL Try.prog 94 [(0, t16), (1, t20)]) fun t21 =>
  ((oK (buildSliceL Try.prog 25 1 [(0, t21)] g) fun t22 g =>
  
  ((oK (builtinL Try.prog .append [25, 25] [x3, t22] g) fun t23 g =>
  
  vK (binL Try.prog .add 3 true x9 (.int .i64 (1))) fun t24 =>
  N4 (t23, t24) g) ∧ True)) ∧ True))) ∧ True)) (
  J71_2 x1 x3 g  K)
theorem L71_4_ok (R4 : LV × LV × LV → LV × LV → LHeap → Prop) (K : LV → LHeap → Prop) (tm : Nat → LV) (g : LHeap) (h : L71_4 (tm 1) (tm 7) (tm 8) (tm 3) (tm 9) g (fun s g => R4 ((tm 1), (tm 7), (tm 8)) s g) K) : codeL Try.prog (Ok Try.prog) (nd71 [1, 1, 0, 1, 0, 0]) ⟨tm, g⟩ (roundK (fun tm : Nat → LV => (tm 1, tm 7, tm 8)) (fun tm : Nat → LV => (tm 3, tm 9)) R4 (exitL 0 (thenL (kj71_2  K) (en71 K)))) := by
  try unfold L71_4 at h
  unfold kj71_2
  generalize @J71_2 = Q71_2 at h ⊢
  refine code2_sound ok_mono _ _ _ ?_
  refine kmp ?_ h
  generalize Ok Try.prog = C
  unfold en71
  as_aux_lemma => kernel_rfl

noncomputable def J71_3 (x1 x3 x7 x8 x9 : LV) (g : LHeap)  (K : LV → LHeap → Prop) : Prop :=
  loopP (fun s g N => L71_4 x1 x7 x8 s.1 s.2 g N  K) (x3, x9) g
abbrev kj71_3  (K : LV → LHeap → Prop) : LSt → Prop := fun st => J71_3 (st.tm 1) (st.tm 3) (st.tm 7) (st.tm 8) (st.tm 9) st.g  K
theorem J71_3_ok  (K : LV → LHeap → Prop) (tm : Nat → LV) (g : LHeap) (h : J71_3 (tm 1) (tm 3) (tm 7) (tm 8) (tm 9) g  K) : codeL Try.prog (Ok Try.prog) (nd71 [1, 1, 0, 1]) ⟨tm, g⟩ (thenL (kj71_2  K) (en71 K)) := by
  refine block_i (b := nd71 [1, 1, 0, 1, 0]) (i := 0) (by kernel_rfl) ?_
  exact loop_glue (b := nd71 [1, 1, 0, 1, 0, 0]) (by kernel_rfl) (fun tm : Nat → LV => (tm 1, tm 7, tm 8)) (fun tm : Nat → LV => (tm 3, tm 9)) (fun a s g N => L71_4 a.1 a.2.1 a.2.2 s.1 s.2 g N  K) (fun tm g R h => L71_4_ok R  K tm g h) tm g h

noncomputable def J71_1 (x1 x3 : LV) (g : LHeap)  (K : LV → LHeap → Prop) : Prop :=
  vK (fieldAddrL 1 x1) fun t6 =>
  vK (loadV none t6 g) fun t7 =>
  oK (builtinL Try.prog .len [24] [t7] g) fun t8 g =>
  J71_3 x1 x3 t7 t8 (.int .i64 (0)) g  K
abbrev kj71_1  (K : LV → LHeap → Prop) : LSt → Prop := fun st => J71_1 (st.tm 1) (st.tm 3) st.g  K
theorem J71_1_ok  (K : LV → LHeap → Prop) (tm : Nat → LV) (g : LHeap) (h : J71_1 (tm 1) (tm 3) g  K) : codeL Try.prog (Ok Try.prog) (nd71 [1, 1]) ⟨tm, g⟩ (en71 K) := by
  refine seq_i (a := nd71 [1, 1, 0]) (b := nd71 [1, 1, 1]) (k' := kj71_2  K) (by kernel_rfl) (fun st h => J71_2_ok  K st.tm st.g h) ?_
  refine seq_i (a := nd71 [1, 1, 0, 0]) (b := nd71 [1, 1, 0, 1]) (k' := kj71_3  K) (by kernel_rfl) (fun st h => J71_3_ok  K st.tm st.g h) ?_
  try unfold J71_1 at h
  unfold kj71_3
  generalize @J71_3 = Q71_3 at h ⊢
  unfold kj71_2
  generalize @J71_2 = Q71_2 at h ⊢
  refine code2_sound ok_mono _ _ _ ?_
  refine kmp ?_ h
  generalize Ok Try.prog = C
  unfold en71
  as_aux_lemma => kernel_rfl

noncomputable def J71_0 (x1 : LV) (g : LHeap)  (K : LV → LHeap → Prop) : Prop :=
  J71_1 x1 .nils g  K
abbrev kj71_0  (K : LV → LHeap → Prop) : LSt → Prop := fun st => J71_0 (st.tm 1) st.g  K
theorem J71_0_ok  (K : LV → LHeap → Prop) (tm : Nat → LV) (g : LHeap) (h : J71_0 (tm 1) g  K) : codeL Try.prog (Ok Try.prog) (nd71 [1]) ⟨tm, g⟩ (en71 K) := by
  refine seq_i (a := nd71 [1, 0]) (b := nd71 [1, 1]) (k' := kj71_1  K) (by kernel_rfl) (fun st h => J71_1_ok  K st.tm st.g h) ?_
  try unfold J71_0 at h
  unfold kj71_1
  generalize @J71_1 = Q71_1 at h ⊢
  refine code2_sound ok_mono _ _ _ ?_
  refine kmp ?_ h
  generalize Ok Try.prog = C
  unfold en71
  as_aux_lemma => kernel_rfl

noncomputable def F71 (x0 : LV) (g : LHeap) (K : LV → LHeap → Prop) : Prop :=
  oK (newL x0 g) fun t1 g =>
  J71_0 t1 g  K
theorem ok71 {x0 : LV} {g : LHeap} {K : LV → LHeap → Prop} (h : g.Wf → (∀ v ∈ ([x0] : List LV), ∀ b ∈ v.objs, b < g.next) → F71 x0 g K) : Ok Try.prog 71 [x0] g K := by
  refine ok_fw Try.mixed Try.func71 (by kernel_rfl) (by kernel_rfl) (c := nd71 []) (by kernel_rfl) fun wf lt => ?_
  rw [← en71_eq]
  replace h := h wf lt
  generalize hs : startL _ = tm
  replace h : F71 (tm 0) g K := by rw [← hs]; exact h
  refine seq_i (a := nd71 [0]) (b := nd71 [1]) (k' := kj71_0  K) (by kernel_rfl) (fun st h => J71_0_ok  K st.tm st.g h) ?_
  try unfold F71 at h
  unfold kj71_0
  generalize @J71_0 = Q71_0 at h ⊢
  refine code2_sound ok_mono _ _ _ ?_
  refine kmp ?_ h
  generalize Ok Try.prog = C
  unfold en71
  as_aux_lemma => kernel_rfl

/-! parapet/image.Pages (22 slots) -/
noncomputable def en43 (K : LV → LHeap → Prop) : LEx → LSt → Prop := fun e st => match e with
  | .exit _ => False
  | _ => K (st.tm 2) st.g
theorem en43_eq (K : LV → LHeap → Prop) : en43 K = endL Try.prog Try.f43 K := by
  funext e st
  cases e <;> kernel_rfl
noncomputable def nd43 (p : List Nat) : Code := subC p (bodyC Try.prog 43)
noncomputable def J43_3 (x3 : LV) (g : LHeap)  (K : LV → LHeap → Prop) : Prop :=
  K x3 g
abbrev kj43_3  (K : LV → LHeap → Prop) : LSt → Prop := fun st => J43_3 (st.tm 3) st.g  K
theorem J43_3_ok  (K : LV → LHeap → Prop) (tm : Nat → LV) (g : LHeap) (h : J43_3 (tm 3) g  K) : codeL Try.prog (Ok Try.prog) (nd43 [1, 1, 1, 1]) ⟨tm, g⟩ (en43 K) := by
  try unfold J43_3 at h
  refine code2_sound ok_mono _ _ _ ?_
  refine kmp ?_ h
  generalize Ok Try.prog = C
  unfold en43
  as_aux_lemma => kernel_rfl

noncomputable def L43_5 (x10 x11 : LV) (x3 x12 : LV) (g : LHeap) (N5 : LV × LV → LHeap → Prop) (K : LV → LHeap → Prop) : Prop :=
  vK (binL Try.prog .lss 3 false x12 x11) fun t13 =>
  ifB t13 (
  vK (ixAddrL none 2 x10 x12) fun t14 =>
  vK (loadV (some 2) t14 g) fun t15 =>
  oK (newL (.agg [(.int .i64 (0)), (.int .i64 (0))]) g) fun t5 g =>
  gK (storeV 2 t5 t15 g) fun g =>
  vK (fieldAddrL 1 t5) fun t17 =>
  vK (loadV none t17 g) fun t18 =>
  vK (binL Try.prog .add 3 false x3 t18) fun t19 =>
  vK (binL Try.prog .add 3 true x12 (.int .i64 (1))) fun t20 =>
  N5 (t19, t20) g) (
  J43_3 x3 g  K)
theorem L43_5_ok (R5 : LV × LV → LV × LV → LHeap → Prop) (K : LV → LHeap → Prop) (tm : Nat → LV) (g : LHeap) (h : L43_5 (tm 10) (tm 11) (tm 3) (tm 12) g (fun s g => R5 ((tm 10), (tm 11)) s g) K) : codeL Try.prog (Ok Try.prog) (nd43 [1, 1, 1, 0, 1, 0, 0]) ⟨tm, g⟩ (roundK (fun tm : Nat → LV => (tm 10, tm 11)) (fun tm : Nat → LV => (tm 3, tm 12)) R5 (exitL 0 (thenL (kj43_3  K) (en43 K)))) := by
  try unfold L43_5 at h
  unfold kj43_3
  generalize @J43_3 = Q43_3 at h ⊢
  refine code2_sound ok_mono _ _ _ ?_
  refine kmp ?_ h
  generalize Ok Try.prog = C
  unfold en43
  as_aux_lemma => kernel_rfl

noncomputable def J43_4 (x3 x10 x11 x12 : LV) (g : LHeap)  (K : LV → LHeap → Prop) : Prop :=
  loopP (fun s g N => L43_5 x10 x11 s.1 s.2 g N  K) (x3, x12) g
abbrev kj43_4  (K : LV → LHeap → Prop) : LSt → Prop := fun st => J43_4 (st.tm 3) (st.tm 10) (st.tm 11) (st.tm 12) st.g  K
theorem J43_4_ok  (K : LV → LHeap → Prop) (tm : Nat → LV) (g : LHeap) (h : J43_4 (tm 3) (tm 10) (tm 11) (tm 12) g  K) : codeL Try.prog (Ok Try.prog) (nd43 [1, 1, 1, 0, 1]) ⟨tm, g⟩ (thenL (kj43_3  K) (en43 K)) := by
  refine block_i (b := nd43 [1, 1, 1, 0, 1, 0]) (i := 0) (by kernel_rfl) ?_
  exact loop_glue (b := nd43 [1, 1, 1, 0, 1, 0, 0]) (by kernel_rfl) (fun tm : Nat → LV => (tm 10, tm 11)) (fun tm : Nat → LV => (tm 3, tm 12)) (fun a s g N => L43_5 a.1 a.2 s.1 s.2 g N  K) (fun tm g R h => L43_5_ok R  K tm g h) tm g h

noncomputable def J43_2 (x1 x3 : LV) (g : LHeap)  (K : LV → LHeap → Prop) : Prop :=
  vK (loadV (some 3) x1 g) fun t9 =>
  Ok Try.prog 71 [t9] g fun t10 g =>
  oK (builtinL Try.prog .len [25] [t10] g) fun t11 g =>
  J43_4 x3 t10 t11 (.int .i64 (0)) g  K
abbrev kj43_2  (K : LV → LHeap → Prop) : LSt → Prop := fun st => J43_2 (st.tm 1) (st.tm 3) st.g  K
theorem J43_2_ok  (K : LV → LHeap → Prop) (tm : Nat → LV) (g : LHeap) (h : J43_2 (tm 1) (tm 3) g  K) : codeL Try.prog (Ok Try.prog) (nd43 [1, 1, 1]) ⟨tm, g⟩ (en43 K) := by
  refine seq_i (a := nd43 [1, 1, 1, 0]) (b := nd43 [1, 1, 1, 1]) (k' := kj43_3  K) (by kernel_rfl) (fun st h => J43_3_ok  K st.tm st.g h) ?_
  refine seq_i (a := nd43 [1, 1, 1, 0, 0]) (b := nd43 [1, 1, 1, 0, 1]) (k' := kj43_4  K) (by kernel_rfl) (fun st h => J43_4_ok  K st.tm st.g h) ?_
  try unfold J43_2 at h
  unfold kj43_4
  generalize @J43_4 = Q43_4 at h ⊢
  unfold kj43_3
  generalize @J43_3 = Q43_3 at h ⊢
  refine code2_sound ok_mono _ _ _ ?_
  refine kmp ?_ h
  generalize Ok Try.prog = C
  unfold en43
  as_aux_lemma => kernel_rfl

noncomputable def J43_1 (x1 : LV) (g : LHeap)  (K : LV → LHeap → Prop) : Prop :=
  J43_2 x1 (.int .i64 (0)) g  K
abbrev kj43_1  (K : LV → LHeap → Prop) : LSt → Prop := fun st => J43_1 (st.tm 1) st.g  K
theorem J43_1_ok  (K : LV → LHeap → Prop) (tm : Nat → LV) (g : LHeap) (h : J43_1 (tm 1) g  K) : codeL Try.prog (Ok Try.prog) (nd43 [1, 1]) ⟨tm, g⟩ (en43 K) := by
  refine seq_i (a := nd43 [1, 1, 0]) (b := nd43 [1, 1, 1]) (k' := kj43_2  K) (by kernel_rfl) (fun st h => J43_2_ok  K st.tm st.g h) ?_
  try unfold J43_1 at h
  unfold kj43_2
  generalize @J43_2 = Q43_2 at h ⊢
  refine code2_sound ok_mono _ _ _ ?_
  refine kmp ?_ h
  generalize Ok Try.prog = C
  unfold en43
  as_aux_lemma => kernel_rfl

noncomputable def J43_0 (x1 : LV) (g : LHeap)  (K : LV → LHeap → Prop) : Prop :=
  vK (loadV (some 3) x1 g) fun t6 =>
  Ok Try.prog 41 [t6] g fun t7 g =>
  vK (binL Try.prog .neq 28 true t7 (.int .i64 (0))) fun t8 =>
  ifB t8 (
  K (.int .i64 (0)) g) (
  J43_1 x1 g  K)
abbrev kj43_0  (K : LV → LHeap → Prop) : LSt → Prop := fun st => J43_0 (st.tm 1) st.g  K
theorem J43_0_ok  (K : LV → LHeap → Prop) (tm : Nat → LV) (g : LHeap) (h : J43_0 (tm 1) g  K) : codeL Try.prog (Ok Try.prog) (nd43 [1]) ⟨tm, g⟩ (en43 K) := by
  refine seq_i (a := nd43 [1, 0]) (b := nd43 [1, 1]) (k' := kj43_1  K) (by kernel_rfl) (fun st h => J43_1_ok  K st.tm st.g h) ?_
  try unfold J43_0 at h
  unfold kj43_1
  generalize @J43_1 = Q43_1 at h ⊢
  refine code2_sound ok_mono _ _ _ ?_
  refine kmp ?_ h
  generalize Ok Try.prog = C
  unfold en43
  as_aux_lemma => kernel_rfl

noncomputable def F43 (x0 : LV) (g : LHeap) (K : LV → LHeap → Prop) : Prop :=
  oK (newL x0 g) fun t1 g =>
  J43_0 t1 g  K
theorem ok43 {x0 : LV} {g : LHeap} {K : LV → LHeap → Prop} (h : g.Wf → (∀ v ∈ ([x0] : List LV), ∀ b ∈ v.objs, b < g.next) → F43 x0 g K) : Ok Try.prog 43 [x0] g K := by
  refine ok_fw Try.mixed Try.func43 (by kernel_rfl) (by kernel_rfl) (c := nd43 []) (by kernel_rfl) fun wf lt => ?_
  rw [← en43_eq]
  replace h := h wf lt
  generalize hs : startL _ = tm
  replace h : F43 (tm 0) g K := by rw [← hs]; exact h
  refine seq_i (a := nd43 [0]) (b := nd43 [1]) (k' := kj43_0  K) (by kernel_rfl) (fun st h => J43_0_ok  K st.tm st.g h) ?_
  try unfold F43 at h
  unfold kj43_0
  generalize @J43_0 = Q43_0 at h ⊢
  refine code2_sound ok_mono _ _ _ ?_
  refine kmp ?_ h
  generalize Ok Try.prog = C
  unfold en43
  as_aux_lemma => kernel_rfl

/-! parapet/parapetref23.Pages (43 slots) -/
noncomputable def en44 (K : LV → LHeap → Prop) : LEx → LSt → Prop := fun e st => match e with
  | .exit _ => False
  | _ => K (st.tm 2) st.g
theorem en44_eq (K : LV → LHeap → Prop) : en44 K = endL Try.prog Try.f44 K := by
  funext e st
  cases e <;> kernel_rfl
noncomputable def nd44 (p : List Nat) : Code := subC p (bodyC Try.prog 44)
noncomputable def J44_4 (x3 : LV) (g : LHeap)  (K : LV → LHeap → Prop) : Prop :=
  K x3 g
abbrev kj44_4  (K : LV → LHeap → Prop) : LSt → Prop := fun st => J44_4 (st.tm 3) st.g  K
theorem J44_4_ok  (K : LV → LHeap → Prop) (tm : Nat → LV) (g : LHeap) (h : J44_4 (tm 3) g  K) : codeL Try.prog (Ok Try.prog) (nd44 [1, 1, 1, 1, 1]) ⟨tm, g⟩ (en44 K) := by
  try unfold J44_4 at h
  refine code2_sound ok_mono _ _ _ ?_
  refine kmp ?_ h
  generalize Ok Try.prog = C
  unfold en44
  as_aux_lemma => kernel_rfl

noncomputable def L44_6 (x1 : LV) (x3 x5 : LV) (g : LHeap) (N6 : LV × LV → LHeap → Prop) (K : LV → LHeap → Prop) : Prop :=
  vK (fieldAddrL 2 x1) fun t28 =>
  vK (loadV none t28 g) fun t29 =>
  oK (builtinL Try.prog .len [25] [t29] g) fun t30 g =>
  vK (binL Try.prog .lss 3 false x5 t30) fun t31 =>
  ifB t31 (
  vK (fieldAddrL 2 x1) fun t35 =>
  vK (loadV none t35 g) fun t36 =>
  vK (ixAddrL none 2 t36 x5) fun t38 =>
  vK (fieldAddrL 1 t38) fun t39 =>
  vK (loadV none t39 g) fun t40 =>
  vK (binL Try.prog .add 3 false x3 t40) fun t41 =>
  vK (binL Try.prog .add 3 true x5 (.int .i64 (1))) fun t33 =>
  N6 (t41, t33) g) (
  J44_4 x3 g  K)
theorem L44_6_ok (R6 : LV → LV × LV → LHeap → Prop) (K : LV → LHeap → Prop) (tm : Nat → LV) (g : LHeap) (h : L44_6 (tm 1) (tm 3) (tm 5) g (fun s g => R6 (tm 1) s g) K) : codeL Try.prog (Ok Try.prog) (nd44 [1, 1, 1, 1, 0, 1, 0, 0]) ⟨tm, g⟩ (roundK (fun tm : Nat → LV => tm 1) (fun tm : Nat → LV => (tm 3, tm 5)) R6 (exitL 2 (thenL (kj44_4  K) (en44 K)))) := by
  try unfold L44_6 at h
  unfold kj44_4
  generalize @J44_4 = Q44_4 at h ⊢
  refine code2_sound ok_mono _ _ _ ?_
  refine kmp ?_ h
  generalize Ok Try.prog = C
  unfold en44
  as_aux_lemma => kernel_rfl

noncomputable def J44_5 (x1 x3 x5 : LV) (g : LHeap)  (K : LV → LHeap → Prop) : Prop :=
  loopP (fun s g N => L44_6 x1 s.1 s.2 g N  K) (x3, x5) g
abbrev kj44_5  (K : LV → LHeap → Prop) : LSt → Prop := fun st => J44_5 (st.tm 1) (st.tm 3) (st.tm 5) st.g  K
theorem J44_5_ok  (K : LV → LHeap → Prop) (tm : Nat → LV) (g : LHeap) (h : J44_5 (tm 1) (tm 3) (tm 5) g  K) : codeL Try.prog (Ok Try.prog) (nd44 [1, 1, 1, 1, 0, 1]) ⟨tm, g⟩ (thenL (kj44_4  K) (en44 K)) := by
  refine block_i (b := nd44 [1, 1, 1, 1, 0, 1, 0]) (i := 2) (by kernel_rfl) ?_
  exact loop_glue (b := nd44 [1, 1, 1, 1, 0, 1, 0, 0]) (by kernel_rfl) (fun tm : Nat → LV => tm 1) (fun tm : Nat → LV => (tm 3, tm 5)) (fun a s g N => L44_6 a s.1 s.2 g N  K) (fun tm g R h => L44_6_ok R  K tm g h) tm g h

noncomputable def J44_3 (x1 x3 : LV) (g : LHeap)  (K : LV → LHeap → Prop) : Prop :=
  J44_5 x1 x3 (.int .i64 (0)) g  K
abbrev kj44_3  (K : LV → LHeap → Prop) : LSt → Prop := fun st => J44_3 (st.tm 1) (st.tm 3) st.g  K
theorem J44_3_ok  (K : LV → LHeap → Prop) (tm : Nat → LV) (g : LHeap) (h : J44_3 (tm 1) (tm 3) g  K) : codeL Try.prog (Ok Try.prog) (nd44 [1, 1, 1, 1]) ⟨tm, g⟩ (en44 K) := by
  refine seq_i (a := nd44 [1, 1, 1, 1, 0]) (b := nd44 [1, 1, 1, 1, 1]) (k' := kj44_4  K) (by kernel_rfl) (fun st h => J44_4_ok  K st.tm st.g h) ?_
  refine seq_i (a := nd44 [1, 1, 1, 1, 0, 0]) (b := nd44 [1, 1, 1, 1, 0, 1]) (k' := kj44_5  K) (by kernel_rfl) (fun st h => J44_5_ok  K st.tm st.g h) ?_
  try unfold J44_3 at h
  unfold kj44_5
  generalize @J44_5 = Q44_5 at h ⊢
  unfold kj44_4
  generalize @J44_4 = Q44_4 at h ⊢
  refine code2_sound ok_mono _ _ _ ?_
  refine kmp ?_ h
  generalize Ok Try.prog = C
  unfold en44
  as_aux_lemma => kernel_rfl

noncomputable def L44_8 (x1 : LV) (x3 x4 : LV) (g : LHeap) (N8 : LV × LV → LHeap → Prop) (K : LV → LHeap → Prop) : Prop :=
  vK (fieldAddrL 1 x1) fun t10 =>
  vK (loadV none t10 g) fun t11 =>
  oK (builtinL Try.prog .len [24] [t11] g) fun t12 g =>
  vK (binL Try.prog .lss 3 false x4 t12) fun t13 =>
  ifB t13 (
  vK (fieldAddrL 1 x1) fun t17 =>
  vK (loadV none t17 g) fun t18 =>
  vK (ixAddrL none 2 t18 x4) fun t20 =>
  vK (fieldAddrL 1 t20) fun t21 =>
  vK (loadV none t21 g) fun t22 =>
  oK (builtinL Try.prog .len [23] [t22] g) fun t23 g =>
  vK (binL Try.prog .add 3 true t23 (.int .i64 (255))) fun t24 =>
  vK (binL Try.prog .quo 3 true t24 (.int .i64 (256))) fun t25 =>
  vK (binL Try.prog .add 3 false x3 t25) fun t26 =>
  vK (binL Try.prog .add 3 true x4 (.int .i64 (1))) fun t15 =>
  N8 (t26, t15) g) (
  J44_3 x1 x3 g  K)
theorem L44_8_ok (R8 : LV → LV × LV → LHeap → Prop) (K : LV → LHeap → Prop) (tm : Nat → LV) (g : LHeap) (h : L44_8 (tm 1) (tm 3) (tm 4) g (fun s g => R8 (tm 1) s g) K) : codeL Try.prog (Ok Try.prog) (nd44 [1, 1, 1, 0, 1, 0, 0]) ⟨tm, g⟩ (roundK (fun tm : Nat → LV => tm 1) (fun tm : Nat → LV => (tm 3, tm 4)) R8 (exitL 0 (thenL (kj44_3  K) (en44 K)))) := by
  try unfold L44_8 at h
  unfold kj44_3
  generalize @J44_3 = Q44_3 at h ⊢
  refine code2_sound ok_mono _ _ _ ?_
  refine kmp ?_ h
  generalize Ok Try.prog = C
  unfold en44
  as_aux_lemma => kernel_rfl

noncomputable def J44_7 (x1 x3 x4 : LV) (g : LHeap)  (K : LV → LHeap → Prop) : Prop :=
  loopP (fun s g N => L44_8 x1 s.1 s.2 g N  K) (x3, x4) g
abbrev kj44_7  (K : LV → LHeap → Prop) : LSt → Prop := fun st => J44_7 (st.tm 1) (st.tm 3) (st.tm 4) st.g  K
theorem J44_7_ok  (K : LV → LHeap → Prop) (tm : Nat → LV) (g : LHeap) (h : J44_7 (tm 1) (tm 3) (tm 4) g  K) : codeL Try.prog (Ok Try.prog) (nd44 [1, 1, 1, 0, 1]) ⟨tm, g⟩ (thenL (kj44_3  K) (en44 K)) := by
  refine block_i (b := nd44 [1, 1, 1, 0, 1, 0]) (i := 0) (by kernel_rfl) ?_
  exact loop_glue (b := nd44 [1, 1, 1, 0, 1, 0, 0]) (by kernel_rfl) (fun tm : Nat → LV => tm 1) (fun tm : Nat → LV => (tm 3, tm 4)) (fun a s g N => L44_8 a s.1 s.2 g N  K) (fun tm g R h => L44_8_ok R  K tm g h) tm g h

noncomputable def J44_2 (x1 x3 : LV) (g : LHeap)  (K : LV → LHeap → Prop) : Prop :=
  J44_7 x1 x3 (.int .i64 (0)) g  K
abbrev kj44_2  (K : LV → LHeap → Prop) : LSt → Prop := fun st => J44_2 (st.tm 1) (st.tm 3) st.g  K
theorem J44_2_ok  (K : LV → LHeap → Prop) (tm : Nat → LV) (g : LHeap) (h : J44_2 (tm 1) (tm 3) g  K) : codeL Try.prog (Ok Try.prog) (nd44 [1, 1, 1]) ⟨tm, g⟩ (en44 K) := by
  refine seq_i (a := nd44 [1, 1, 1, 0]) (b := nd44 [1, 1, 1, 1]) (k' := kj44_3  K) (by kernel_rfl) (fun st h => J44_3_ok  K st.tm st.g h) ?_
  refine seq_i (a := nd44 [1, 1, 1, 0, 0]) (b := nd44 [1, 1, 1, 0, 1]) (k' := kj44_7  K) (by kernel_rfl) (fun st h => J44_7_ok  K st.tm st.g h) ?_
  try unfold J44_2 at h
  unfold kj44_7
  generalize @J44_7 = Q44_7 at h ⊢
  unfold kj44_3
  generalize @J44_3 = Q44_3 at h ⊢
  refine code2_sound ok_mono _ _ _ ?_
  refine kmp ?_ h
  generalize Ok Try.prog = C
  unfold en44
  as_aux_lemma => kernel_rfl

noncomputable def J44_1 (x1 : LV) (g : LHeap)  (K : LV → LHeap → Prop) : Prop :=
  J44_2 x1 (.int .i64 (0)) g  K
abbrev kj44_1  (K : LV → LHeap → Prop) : LSt → Prop := fun st => J44_1 (st.tm 1) st.g  K
theorem J44_1_ok  (K : LV → LHeap → Prop) (tm : Nat → LV) (g : LHeap) (h : J44_1 (tm 1) g  K) : codeL Try.prog (Ok Try.prog) (nd44 [1, 1]) ⟨tm, g⟩ (en44 K) := by
  refine seq_i (a := nd44 [1, 1, 0]) (b := nd44 [1, 1, 1]) (k' := kj44_2  K) (by kernel_rfl) (fun st h => J44_2_ok  K st.tm st.g h) ?_
  try unfold J44_1 at h
  unfold kj44_2
  generalize @J44_2 = Q44_2 at h ⊢
  refine code2_sound ok_mono _ _ _ ?_
  refine kmp ?_ h
  generalize Ok Try.prog = C
  unfold en44
  as_aux_lemma => kernel_rfl

noncomputable def J44_0 (x1 : LV) (g : LHeap)  (K : LV → LHeap → Prop) : Prop :=
  vK (loadV (some 3) x1 g) fun t6 =>
  Ok Try.prog 42 [t6] g fun t7 g =>
  vK (binL Try.prog .neq 28 true t7 (.int .i64 (0))) fun t8 =>
  ifB t8 (
  K (.int .i64 (0)) g) (
  J44_1 x1 g  K)
abbrev kj44_0  (K : LV → LHeap → Prop) : LSt → Prop := fun st => J44_0 (st.tm 1) st.g  K
theorem J44_0_ok  (K : LV → LHeap → Prop) (tm : Nat → LV) (g : LHeap) (h : J44_0 (tm 1) g  K) : codeL Try.prog (Ok Try.prog) (nd44 [1]) ⟨tm, g⟩ (en44 K) := by
  refine seq_i (a := nd44 [1, 0]) (b := nd44 [1, 1]) (k' := kj44_1  K) (by kernel_rfl) (fun st h => J44_1_ok  K st.tm st.g h) ?_
  try unfold J44_0 at h
  unfold kj44_1
  generalize @J44_1 = Q44_1 at h ⊢
  refine code2_sound ok_mono _ _ _ ?_
  refine kmp ?_ h
  generalize Ok Try.prog = C
  unfold en44
  as_aux_lemma => kernel_rfl

noncomputable def F44 (x0 : LV) (g : LHeap) (K : LV → LHeap → Prop) : Prop :=
  oK (newL x0 g) fun t1 g =>
  J44_0 t1 g  K
theorem ok44 {x0 : LV} {g : LHeap} {K : LV → LHeap → Prop} (h : g.Wf → (∀ v ∈ ([x0] : List LV), ∀ b ∈ v.objs, b < g.next) → F44 x0 g K) : Ok Try.prog 44 [x0] g K := by
  refine ok_fw Try.mixed Try.func44 (by kernel_rfl) (by kernel_rfl) (c := nd44 []) (by kernel_rfl) fun wf lt => ?_
  rw [← en44_eq]
  replace h := h wf lt
  generalize hs : startL _ = tm
  replace h : F44 (tm 0) g K := by rw [← hs]; exact h
  refine seq_i (a := nd44 [0]) (b := nd44 [1]) (k' := kj44_0  K) (by kernel_rfl) (fun st h => J44_0_ok  K st.tm st.g h) ?_
  try unfold F44 at h
  unfold kj44_0
  generalize @J44_0 = Q44_0 at h ⊢
  refine code2_sound ok_mono _ _ _ ?_
  refine kmp ?_ h
  generalize Ok Try.prog = C
  unfold en44
  as_aux_lemma => kernel_rfl

/-! parapet/parapetlaw23.ImageMakes (60 slots) -/
noncomputable def en10 (K : LV → LHeap → Prop) : LEx → LSt → Prop := fun e st => match e with
  | .exit _ => False
  | _ => K (st.tm 2) st.g
theorem en10_eq (K : LV → LHeap → Prop) : en10 K = endL Try.prog Try.f10 K := by
  funext e st
  cases e <;> kernel_rfl
noncomputable def nd10 (p : List Nat) : Code := subC p (bodyC Try.prog 10)
noncomputable def J10_3 (x1 x3 x6 : LV) (g : LHeap)  (K : LV → LHeap → Prop) : Prop :=
  vK (binL Try.prog .neq 28 true x6 (.int .i64 (0))) fun t47 =>
  ifB t47 (
  K (.bool true) g) (
  Ok Try.prog 14 [x3] g fun t50 g =>
  vK (extractL t50 0) fun t51 =>
  vK (extractL t50 1) fun t52 =>
  oK (newL (.agg [(.int .i64 (0)), .nils, .nils]) g) fun t7 g =>
  gK (storeV 3 t7 t51 g) fun g =>
  vK (binL Try.prog .eql 28 true t52 (.int .i64 (0))) fun t54 =>
  gd t54 true g (fun K => vK (loadV (some 3) t7 g) fun v => K v g) fun t56 g =>
  gd t54 true g (fun K => vK (loadV (some 3) x1 g) fun v => K v g) fun t57 g =>
  gd t54 true g (fun K => Ok Try.prog 17 [t56, t57] g K) fun t58 g =>
  vK (pickL t54 t58 (.bool false)) fun t59 =>
  K t59 g)
abbrev kj10_3  (K : LV → LHeap → Prop) : LSt → Prop := fun st => J10_3 (st.tm 1) (st.tm 3) (st.tm 6) st.g  K
theorem J10_3_ok  (K : LV → LHeap → Prop) (tm : Nat → LV) (g : LHeap) (h : J10_3 (tm 1) (tm 3) (tm 6) g  K) : codeL Try.prog (Ok Try.prog) (nd10 [1, 1, 1, 1]) ⟨tm, g⟩ (en10 K) := by
  try unfold J10_3 at h
  refine code2_sound ok_mono _ _ _ ?_
  refine kmp ?_ h
  generalize Ok Try.prog = C
  unfold en10
  as_aux_lemma => kernel_rfl

noncomputable def J10_2 (x1 x3 x4 x5 x6 : LV) (g : LHeap)  (K : LV → LHeap → Prop) : Prop :=
  ((Ok Try.prog 16 [] g fun t18 g =>
  
  vK (unL .not t18) fun t19 =>
  gdV t19 false (some x3) fun t21 =>
  gdD t19 false (convLightL Try.prog 23 9 t21 g) (fun t22 =>
  gdV t19 false (some x5) fun t23 =>
  gdD t19 false (convLightL Try.prog 23 9 t23 g) (fun t24 =>
  gdV t19 false (binL Try.prog .neq 9 false t22 t24) fun t25 =>
  vK (pickL t19 (.bool true) t25) fun t26 =>
  gdV t26 false (some x4) fun t28 =>
  gdV t26 false (some x6) fun t29 =>
  gdV t26 false (binL Try.prog .neq 28 false t28 t29) fun t30 =>
  vK (pickL t26 (.bool true) t30) fun t31 =>
  gdD t31 false (loadV (some 3) x1 g) (fun t33 =>
  gdD t31 false (loadV (some 3) x1 g) (fun t35 =>
  ((gd t31 false g (fun K => Ok Try.prog 41 [t33] g K) fun t34 g =>
  ((loadV (some 3) x1 g) = some t35 ∧ 
  ((gd t31 false g (fun K => Ok Try.prog 42 [t35] g K) fun t36 g =>
  
  gdV t31 false (binL Try.prog .neq 28 false t34 t36) fun t37 =>
  vK (pickL t31 (.bool true) t37) fun t38 =>
  gdD t38 false (loadV (some 3) x1 g) (fun t40 =>
  gdD t38 false (loadV (some 3) x1 g) (fun t42 =>
  ((gd t38 false g (fun K => Ok Try.prog 43 [t40] g K) fun t41 g =>
  ((loadV (some 3) x1 g) = some t42 ∧ 
  ((gd t38 false g (fun K => Ok Try.prog 44 [t42] g K) fun t43 g =>
  
  gdV t38 false (binL Try.prog .neq 3 false t41 t43) fun t44 =>
  vK (pickL t38 (.bool true) t44) fun t45 =>
  ifB t45 (
  K (.bool false) g) (
  J10_3 x1 x3 x6 g  K)) ∧ True))) ∧ True)) (
  ((gd t38 false g (fun K => Ok Try.prog 43 [t40] g K) fun t41 g =>
  
  ((gd t38 false g (fun K => Ok Try.prog 44 [undefL] g K) fun t43 g =>
  
  gdV t38 false (binL Try.prog .neq 3 false t41 t43) fun t44 =>
  vK (pickL t38 (.bool true) t44) fun t45 =>
  ifB t45 (
  K (.bool false) g) (
  J10_3 x1 x3 x6 g  K)) ∧ True)) ∧ True))) (
  gdD t38 false (loadV (some 3) x1 g) (fun t42 =>
  ((gd t38 false g (fun K => Ok Try.prog 43 [undefL] g K) fun t41 g =>
  ((loadV (some 3) x1 g) = some t42 ∧ 
  ((gd t38 false g (fun K => Ok Try.prog 44 [t42] g K) fun t43 g =>
  
  gdV t38 false (binL Try.prog .neq 3 false t41 t43) fun t44 =>
  vK (pickL t38 (.bool true) t44) fun t45 =>
  ifB t45 (
  K (.bool false) g) (
  J10_3 x1 x3 x6 g  K)) ∧ True))) ∧ True)) (
  ((gd t38 false g (fun K => Ok Try.prog 43 [undefL] g K) fun t41 g =>
  
  ((gd t38 false g (fun K => Ok Try.prog 44 [undefL] g K) fun t43 g =>
  
  gdV t38 false (binL Try.prog .neq 3 false t41 t43) fun t44 =>
  vK (pickL t38 (.bool true) t44) fun t45 =>
  ifB t45 (
  K (.bool false) g) (
  J10_3 x1 x3 x6 g  K)) ∧ True)) ∧ True)))) ∧ True))) ∧ True)) (
  ((gd t31 false g (fun K => Ok Try.prog 41 [t33] g K) fun t34 g =>
  
  ((gd t31 false g (fun K => Ok Try.prog 42 [undefL] g K) fun t36 g =>
  
  gdV t31 false (binL Try.prog .neq 28 false t34 t36) fun t37 =>
  vK (pickL t31 (.bool true) t37) fun t38 =>
  gdD t38 false (loadV (some 3) x1 g) (fun t40 =>
  gdD t38 false (loadV (some 3) x1 g) (fun t42 =>
  ((gd t38 false g (fun K => Ok Try.prog 43 [t40] g K) fun t41 g =>
  ((loadV (some 3) x1 g) = some t42 ∧ 
  ((gd t38 false g (fun K => Ok Try.prog 44 [t42] g K) fun t43 g =>
  
  gdV t38 false (binL Try.prog .neq 3 false t41 t43) fun t44 =>
  vK (pickL t38 (.bool true) t44) fun t45 =>
  ifB t45 (
  K (.bool false) g) (
  J10_3 x1 x3 x6 g  K)) ∧ True))) ∧ True)) (
  ((gd t38 false g (fun K => Ok Try.prog 43 [t40] g K) fun t41 g =>
  
  ((gd t38 false g (fun K => Ok Try.prog 44 [undefL] g K) fun t43 g =>
  
  gdV t38 false (binL Try.prog .neq 3 false t41 t43) fun t44 =>
  vK (pickL t38 (.bool true) t44) fun t45 =>
  ifB t45 (
  K (.bool false) g) (
  J10_3 x1 x3 x6 g  K)) ∧ True)) ∧ True))) (
  gdD t38 false (loadV (some 3) x1 g) (fun t42 =>
  ((gd t38 false g (fun K => Ok Try.prog 43 [undefL] g K) fun t41 g =>
  ((loadV (some 3) x1 g) = some t42 ∧ 
  ((gd t38 false g (fun K => Ok Try.prog 44 [t42] g K) fun t43 g =>
  
  gdV t38 false (binL Try.prog .neq 3 false t41 t43) fun t44 =>
  vK (pickL t38 (.bool true) t44) fun t45 =>
  ifB t45 (
  K (.bool false) g) (
  J10_3 x1 x3 x6 g  K)) ∧ True))) ∧ True)) (
  ((gd t38 false g (fun K => Ok Try.prog 43 [undefL] g K) fun t41 g =>
  
  ((gd t38 false g (fun K => Ok Try.prog 44 [undefL] g K) fun t43 g =>
  
  gdV t38 false (binL Try.prog .neq 3 false t41 t43) fun t44 =>
  vK (pickL t38 (.bool true) t44) fun t45 =>
  ifB t45 (
  K (.bool false) g) (
  J10_3 x1 x3 x6 g  K)) ∧ True)) ∧ True)))) ∧ True)) ∧ True))) (
  gdD t31 false (loadV (some 3) x1 g) (fun t35 =>
  ((gd t31 false g (fun K => Ok Try.prog 41 [undefL] g K) fun t34 g =>
  ((loadV (some 3) x1 g) = some t35 ∧ 
  ((gd t31 false g (fun K => Ok Try.prog 42 [t35] g K) fun t36 g =>
  
  gdV t31 false (binL Try.prog .neq 28 false t34 t36) fun t37 =>
  vK (pickL t31 (.bool true) t37) fun t38 =>
  gdD t38 false (loadV (some 3) x1 g) (fun t40 =>
  gdD t38 false (loadV (some 3) x1 g) (fun t42 =>
  ((gd t38 false g (fun K => Ok Try.prog 43 [t40] g K) fun t41 g =>
  ((loadV (some 3) x1 g) = some t42 ∧ 
  ((gd t38 false g (fun K => Ok Try.prog 44 [t42] g K) fun t43 g =>
  
  gdV t38 false (binL Try.prog .neq 3 false t41 t43) fun t44 =>
  vK (pickL t38 (.bool true) t44) fun t45 =>
  ifB t45 (
  K (.bool false) g) (
  J10_3 x1 x3 x6 g  K)) ∧ True))) ∧ True)) (
  ((gd t38 false g (fun K => Ok Try.prog 43 [t40] g K) fun t41 g =>
  
  ((gd t38 false g (fun K => Ok Try.prog 44 [undefL] g K) fun t43 g =>
  
  gdV t38 false (binL Try.prog .neq 3 false t41 t43) fun t44 =>
  vK (pickL t38 (.bool true) t44) fun t45 =>
  ifB t45 (
  K (.bool false) g) (
  J10_3 x1 x3 x6 g  K)) ∧ True)) ∧ True))) (
  gdD t38 false (loadV (some 3) x1 g) (fun t42 =>
  ((gd t38 false g (fun K => Ok Try.prog 43 [undefL] g K) fun t41 g =>
  ((loadV (some 3) x1 g) = some t42 ∧ 
  ((gd t38 false g (fun K => Ok Try.prog 44 [t42] g K) fun t43 g =>
  
  gdV t38 false (binL Try.prog .neq 3 false t41 t43) fun t44 =>
  vK (pickL t38 (.bool true) t44) fun t45 =>
  ifB t45 (
  K (.bool false) g) (
  J10_3 x1 x3 x6 g  K)) ∧ True))) ∧ True)) (
  ((gd t38 false g (fun K => Ok Try.prog 43 [undefL] g K) fun t41 g =>
  
  ((gd t38 false g (fun K => Ok Try.prog 44 [undefL] g K) fun t43 g =>
  
  gdV t38 false (binL Try.prog .neq 3 false t41 t43) fun t44 =>
  vK (pickL t38 (.bool true) t44) fun t45 =>
  ifB t45 (
  K (.bool false) g) (
  J10_3 x1 x3 x6 g  K)) ∧ True)) ∧ True)))) ∧ True))) ∧ True)) (
  ((gd t31 false g (fun K => Ok Try.prog 41 [undefL] g K) fun t34 g =>
  
  ((gd t31 false g (fun K => Ok Try.prog 42 [undefL] g K) fun t36 g =>
  
  gdV t31 false (binL Try.prog .neq 28 false t34 t36) fun t37 =>
  vK (pickL t31 (.bool true) t37) fun t38 =>
  gdD t38 false (loadV (some 3) x1 g) (fun t40 =>
  gdD t38 false (loadV (some 3) x1 g) (fun t42 =>
  ((gd t38 false g (fun K => Ok Try.prog 43 [t40] g K) fun t41 g =>
  ((loadV (some 3) x1 g) = some t42 ∧ 
  ((gd t38 false g (fun K => Ok Try.prog 44 [t42] g K) fun t43 g =>
  
  gdV t38 false (binL Try.prog .neq 3 false t41 t43) fun t44 =>
  vK (pickL t38 (.bool true) t44) fun t45 =>
  ifB t45 (
  K (.bool false) g) (
  J10_3 x1 x3 x6 g  K)) ∧ True))) ∧ True)) (
  ((gd t38 false g (fun K => Ok Try.prog 43 [t40] g K) fun t41 g =>
  
  ((gd t38 false g (fun K => Ok Try.prog 44 [undefL] g K) fun t43 g =>
  
  gdV t38 false (binL Try.prog .neq 3 false t41 t43) fun t44 =>
  vK (pickL t38 (.bool true) t44) fun t45 =>
  ifB t45 (
  K (.bool false) g) (
  J10_3 x1 x3 x6 g  K)) ∧ True)) ∧ True))) (
  gdD t38 false (loadV (some 3) x1 g) (fun t42 =>
  ((gd t38 false g (fun K => Ok Try.prog 43 [undefL] g K) fun t41 g =>
  ((loadV (some 3) x1 g) = some t42 ∧ 
  ((gd t38 false g (fun K => Ok Try.prog 44 [t42] g K) fun t43 g =>
  
  gdV t38 false (binL Try.prog .neq 3 false t41 t43) fun t44 =>
  vK (pickL t38 (.bool true) t44) fun t45 =>
  ifB t45 (
  K (.bool false) g) (
  J10_3 x1 x3 x6 g  K)) ∧ True))) ∧ True)) (
  ((gd t38 false g (fun K => Ok Try.prog 43 [undefL] g K) fun t41 g =>
  
  ((gd t38 false g (fun K => Ok Try.prog 44 [undefL] g K) fun t43 g =>
  
  gdV t38 false (binL Try.prog .neq 3 false t41 t43) fun t44 =>
  vK (pickL t38 (.bool true) t44) fun t45 =>
  ifB t45 (
  K (.bool false) g) (
  J10_3 x1 x3 x6 g  K)) ∧ True)) ∧ True)))) ∧ True)) ∧ True)))) (
  gdV t19 false (binL Try.prog .neq 9 false t22 undefL) fun t25 =>
  vK (pickL t19 (.bool true) t25) fun t26 =>
  gdV t26 false (some x4) fun t28 =>
  gdV t26 false (some x6) fun t29 =>
  gdV t26 false (binL Try.prog .neq 28 false t28 t29) fun t30 =>
  vK (pickL t26 (.bool true) t30) fun t31 =>
  gdD t31 false (loadV (some 3) x1 g) (fun t33 =>
  gdD t31 false (loadV (some 3) x1 g) (fun t35 =>
  ((gd t31 false g (fun K => Ok Try.prog 41 [t33] g K) fun t34 g =>
  ((loadV (some 3) x1 g) = some t35 ∧ 
  ((gd t31 false g (fun K => Ok Try.prog 42 [t35] g K) fun t36 g =>
  
  gdV t31 false (binL Try.prog .neq 28 false t34 t36) fun t37 =>
  vK (pickL t31 (.bool true) t37) fun t38 =>
  gdD t38 false (loadV (some 3) x1 g) (fun t40 =>
  gdD t38 false (loadV (some 3) x1 g) (fun t42 =>
  ((gd t38 false g (fun K => Ok Try.prog 43 [t40] g K) fun t41 g =>
  ((loadV (some 3) x1 g) = some t42 ∧ 
  ((gd t38 false g (fun K => Ok Try.prog 44 [t42] g K) fun t43 g =>
  
  gdV t38 false (binL Try.prog .neq 3 false t41 t43) fun t44 =>
  vK (pickL t38 (.bool true) t44) fun t45 =>
  ifB t45 (
  K (.bool false) g) (
  J10_3 x1 x3 x6 g  K)) ∧ True))) ∧ True)) (
  ((gd t38 false g (fun K => Ok Try.prog 43 [t40] g K) fun t41 g =>
  
  ((gd t38 false g (fun K => Ok Try.prog 44 [undefL] g K) fun t43 g =>
  
  gdV t38 false (binL Try.prog .neq 3 false t41 t43) fun t44 =>
  vK (pickL t38 (.bool true) t44) fun t45 =>
  ifB t45 (
  K (.bool false) g) (
  J10_3 x1 x3 x6 g  K)) ∧ True)) ∧ True))) (
  gdD t38 false (loadV (some 3) x1 g) (fun t42 =>
  ((gd t38 false g (fun K => Ok Try.prog 43 [undefL] g K) fun t41 g =>
  ((loadV (some 3) x1 g) = some t42 ∧ 
  ((gd t38 false g (fun K => Ok Try.prog 44 [t42] g K) fun t43 g =>
  
  gdV t38 false (binL Try.prog .neq 3 false t41 t43) fun t44 =>
  vK (pickL t38 (.bool true) t44) fun t45 =>
  ifB t45 (
  K (.bool false) g) (
  J10_3 x1 x3 x6 g  K)) ∧ True))) ∧ True)) (
  ((gd t38 false g (fun K => Ok Try.prog 43 [undefL] g K) fun t41 g =>
  
  ((gd t38 false g (fun K => Ok Try.prog 44 [undefL] g K) fun t43 g =>
  
  gdV t38 false (binL Try.prog .neq 3 false t41 t43) fun t44 =>
  vK (pickL t38 (.bool true) t44) fun t45 =>
  ifB t45 (
  K (.bool false) g) (
  J10_3 x1 x3 x6 g  K)) ∧ True)) ∧ True)))) ∧ True))) ∧ True)) (
  ((gd t31 false g (fun K => Ok Try.prog 41 [t33] g K) fun t34 g =>
  
  ((gd t31 false g (fun K => Ok Try.prog 42 [undefL] g K) fun t36 g =>
  
  gdV t31 false (binL Try.prog .neq 28 false t34 t36) fun t37 =>
  vK (pickL t31 (.bool true) t37) fun t38 =>
  gdD t38 false (loadV (some 3) x1 g) (fun t40 =>
  gdD t38 false (loadV (some 3) x1 g) (fun t42 =>
  ((gd t38 false g (fun K => Ok Try.prog 43 [t40] g K) fun t41 g =>
  ((loadV (some 3) x1 g) = some t42 ∧ 
  ((gd t38 false g (fun K => Ok Try.prog 44 [t42] g K) fun t43 g =>
  
  gdV t38 false (binL Try.prog .neq 3 false t41 t43) fun t44 =>
  vK (pickL t38 (.bool true) t44) fun t45 =>
  ifB t45 (
  K (.bool false) g) (
  J10_3 x1 x3 x6 g  K)) ∧ True))) ∧ True)) (
  ((gd t38 false g (fun K => Ok Try.prog 43 [t40] g K) fun t41 g =>
  
  ((gd t38 false g (fun K => Ok Try.prog 44 [undefL] g K) fun t43 g =>
  
  gdV t38 false (binL Try.prog .neq 3 false t41 t43) fun t44 =>
  vK (pickL t38 (.bool true) t44) fun t45 =>
  ifB t45 (
  K (.bool false) g) (
  J10_3 x1 x3 x6 g  K)) ∧ True)) ∧ True))) (
  gdD t38 false (loadV (some 3) x1 g) (fun t42 =>
  ((gd t38 false g (fun K => Ok Try.prog 43 [undefL] g K) fun t41 g =>
  ((loadV (some 3) x1 g) = some t42 ∧ 
  ((gd t38 false g (fun K => Ok Try.prog 44 [t42] g K) fun t43 g =>
  
  gdV t38 false (binL Try.prog .neq 3 false t41 t43) fun t44 =>
  vK (pickL t38 (.bool true) t44) fun t45 =>
  ifB t45 (
  K (.bool false) g) (
  J10_3 x1 x3 x6 g  K)) ∧ True))) ∧ True)) (
  ((gd t38 false g (fun K => Ok Try.prog 43 [undefL] g K) fun t41 g =>
  
  ((gd t38 false g (fun K => Ok Try.prog 44 [undefL] g K) fun t43 g =>
  
  gdV t38 false (binL Try.prog .neq 3 false t41 t43) fun t44 =>
  vK (pickL t38 (.bool true) t44) fun t45 =>
  ifB t45 (
  K (.bool false) g) (
  J10_3 x1 x3 x6 g  K)) ∧ True)) ∧ True)))) ∧ True)) ∧ True))) (
  gdD t31 false (loadV (some 3) x1 g) (fun t35 =>
  ((gd t31 false g (fun K => Ok Try.prog 41 [undefL] g K) fun t34 g =>
  ((loadV (some 3) x1 g) = some t35 ∧ 
  ((gd t31 false g (fun K => Ok Try.prog 42 [t35] g K) fun t36 g =>
  
  gdV t31 false (binL Try.prog .neq 28 false t34 t36) fun t37 =>
  vK (pickL t31 (.bool true) t37) fun t38 =>
  gdD t38 false (loadV (some 3) x1 g) (fun t40 =>
  gdD t38 false (loadV (some 3) x1 g) (fun t42 =>
  ((gd t38 false g (fun K => Ok Try.prog 43 [t40] g K) fun t41 g =>
  ((loadV (some 3) x1 g) = some t42 ∧ 
  ((gd t38 false g (fun K => Ok Try.prog 44 [t42] g K) fun t43 g =>
  
  gdV t38 false (binL Try.prog .neq 3 false t41 t43) fun t44 =>
  vK (pickL t38 (.bool true) t44) fun t45 =>
  ifB t45 (
  K (.bool false) g) (
  J10_3 x1 x3 x6 g  K)) ∧ True))) ∧ True)) (
  ((gd t38 false g (fun K => Ok Try.prog 43 [t40] g K) fun t41 g =>
  
  ((gd t38 false g (fun K => Ok Try.prog 44 [undefL] g K) fun t43 g =>
  
  gdV t38 false (binL Try.prog .neq 3 false t41 t43) fun t44 =>
  vK (pickL t38 (.bool true) t44) fun t45 =>
  ifB t45 (
  K (.bool false) g) (
  J10_3 x1 x3 x6 g  K)) ∧ True)) ∧ True))) (
  gdD t38 false (loadV (some 3) x1 g) (fun t42 =>
  ((gd t38 false g (fun K => Ok Try.prog 43 [undefL] g K) fun t41 g =>
  ((loadV (some 3) x1 g) = some t42 ∧ 
  ((gd t38 false g (fun K => Ok Try.prog 44 [t42] g K) fun t43 g =>
  
  gdV t38 false (binL Try.prog .neq 3 false t41 t43) fun t44 =>
  vK (pickL t38 (.bool true) t44) fun t45 =>
  ifB t45 (
  K (.bool false) g) (
  J10_3 x1 x3 x6 g  K)) ∧ True))) ∧ True)) (
  ((gd t38 false g (fun K => Ok Try.prog 43 [undefL] g K) fun t41 g =>
  
  ((gd t38 false g (fun K => Ok Try.prog 44 [undefL] g K) fun t43 g =>
  
  gdV t38 false (binL Try.prog .neq 3 false t41 t43) fun t44 =>
  vK (pickL t38 (.bool true) t44) fun t45 =>
  ifB t45 (
  K (.bool false) g) (
  J10_3 x1 x3 x6 g  K)) ∧ True)) ∧ True)))) ∧ True))) ∧ True)) (
  ((gd t31 false g (fun K => Ok Try.prog 41 [undefL] g K) fun t34 g =>
  
  ((gd t31 false g (fun K => Ok Try.prog 42 [undefL] g K) fun t36 g =>
  
  gdV t31 false (binL Try.prog .neq 28 false t34 t36) fun t37 =>
  vK (pickL t31 (.bool true) t37) fun t38 =>
  gdD t38 false (loadV (some 3) x1 g) (fun t40 =>
  gdD t38 false (loadV (some 3) x1 g) (fun t42 =>
  ((gd t38 false g (fun K => Ok Try.prog 43 [t40] g K) fun t41 g =>
  ((loadV (some 3) x1 g) = some t42 ∧ 
  ((gd t38 false g (fun K => Ok Try.prog 44 [t42] g K) fun t43 g =>
  
  gdV t38 false (binL Try.prog .neq 3 false t41 t43) fun t44 =>
  vK (pickL t38 (.bool true) t44) fun t45 =>
  ifB t45 (
  K (.bool false) g) (
  J10_3 x1 x3 x6 g  K)) ∧ True))) ∧ True)) (
  ((gd t38 false g (fun K => Ok Try.prog 43 [t40] g K) fun t41 g =>
  
  ((gd t38 false g (fun K => Ok Try.prog 44 [undefL] g K) fun t43 g =>
  
  gdV t38 false (binL Try.prog .neq 3 false t41 t43) fun t44 =>
  vK (pickL t38 (.bool true) t44) fun t45 =>
  ifB t45 (
  K (.bool false) g) (
  J10_3 x1 x3 x6 g  K)) ∧ True)) ∧ True))) (
  gdD t38 false (loadV (some 3) x1 g) (fun t42 =>
  ((gd t38 false g (fun K => Ok Try.prog 43 [undefL] g K) fun t41 g =>
  ((loadV (some 3) x1 g) = some t42 ∧ 
  ((gd t38 false g (fun K => Ok Try.prog 44 [t42] g K) fun t43 g =>
  
  gdV t38 false (binL Try.prog .neq 3 false t41 t43) fun t44 =>
  vK (pickL t38 (.bool true) t44) fun t45 =>
  ifB t45 (
  K (.bool false) g) (
  J10_3 x1 x3 x6 g  K)) ∧ True))) ∧ True)) (
  ((gd t38 false g (fun K => Ok Try.prog 43 [undefL] g K) fun t41 g =>
  
  ((gd t38 false g (fun K => Ok Try.prog 44 [undefL] g K) fun t43 g =>
  
  gdV t38 false (binL Try.prog .neq 3 false t41 t43) fun t44 =>
  vK (pickL t38 (.bool true) t44) fun t45 =>
  ifB t45 (
  K (.bool false) g) (
  J10_3 x1 x3 x6 g  K)) ∧ True)) ∧ True)))) ∧ True)) ∧ True))))) (
  gdV t19 false (some x5) fun t23 =>
  gdD t19 false (convLightL Try.prog 23 9 t23 g) (fun t24 =>
  gdV t19 false (binL Try.prog .neq 9 false undefL t24) fun t25 =>
  vK (pickL t19 (.bool true) t25) fun t26 =>
  gdV t26 false (some x4) fun t28 =>
  gdV t26 false (some x6) fun t29 =>
  gdV t26 false (binL Try.prog .neq 28 false t28 t29) fun t30 =>
  vK (pickL t26 (.bool true) t30) fun t31 =>
  gdD t31 false (loadV (some 3) x1 g) (fun t33 =>
  gdD t31 false (loadV (some 3) x1 g) (fun t35 =>
  ((gd t31 false g (fun K => Ok Try.prog 41 [t33] g K) fun t34 g =>
  ((loadV (some 3) x1 g) = some t35 ∧ 
  ((gd t31 false g (fun K => Ok Try.prog 42 [t35] g K) fun t36 g =>
  
  gdV t31 false (binL Try.prog .neq 28 false t34 t36) fun t37 =>
  vK (pickL t31 (.bool true) t37) fun t38 =>
  gdD t38 false (loadV (some 3) x1 g) (fun t40 =>
  gdD t38 false (loadV (some 3) x1 g) (fun t42 =>
  ((gd t38 false g (fun K => Ok Try.prog 43 [t40] g K) fun t41 g =>
  ((loadV (some 3) x1 g) = some t42 ∧ 
  ((gd t38 false g (fun K => Ok Try.prog 44 [t42] g K) fun t43 g =>
  
  gdV t38 false (binL Try.prog .neq 3 false t41 t43) fun t44 =>
  vK (pickL t38 (.bool true) t44) fun t45 =>
  ifB t45 (
  K (.bool false) g) (
  J10_3 x1 x3 x6 g  K)) ∧ True))) ∧ True)) (
  ((gd t38 false g (fun K => Ok Try.prog 43 [t40] g K) fun t41 g =>
  
  ((gd t38 false g (fun K => Ok Try.prog 44 [undefL] g K) fun t43 g =>
  
  gdV t38 false (binL Try.prog .neq 3 false t41 t43) fun t44 =>
  vK (pickL t38 (.bool true) t44) fun t45 =>
  ifB t45 (
  K (.bool false) g) (
  J10_3 x1 x3 x6 g  K)) ∧ True)) ∧ True))) (
  gdD t38 false (loadV (some 3) x1 g) (fun t42 =>
  ((gd t38 false g (fun K => Ok Try.prog 43 [undefL] g K) fun t41 g =>
  ((loadV (some 3) x1 g) = some t42 ∧ 
  ((gd t38 false g (fun K => Ok Try.prog 44 [t42] g K) fun t43 g =>
  
  gdV t38 false (binL Try.prog .neq 3 false t41 t43) fun t44 =>
  vK (pickL t38 (.bool true) t44) fun t45 =>
  ifB t45 (
  K (.bool false) g) (
  J10_3 x1 x3 x6 g  K)) ∧ True))) ∧ True)) (
  ((gd t38 false g (fun K => Ok Try.prog 43 [undefL] g K) fun t41 g =>
  
  ((gd t38 false g (fun K => Ok Try.prog 44 [undefL] g K) fun t43 g =>
  
  gdV t38 false (binL Try.prog .neq 3 false t41 t43) fun t44 =>
  vK (pickL t38 (.bool true) t44) fun t45 =>
  ifB t45 (
  K (.bool false) g) (
  J10_3 x1 x3 x6 g  K)) ∧ True)) ∧ True)))) ∧ True))) ∧ True)) (
  ((gd t31 false g (fun K => Ok Try.prog 41 [t33] g K) fun t34 g =>
  
  ((gd t31 false g (fun K => Ok Try.prog 42 [undefL] g K) fun t36 g =>
  
  gdV t31 false (binL Try.prog .neq 28 false t34 t36) fun t37 =>
  vK (pickL t31 (.bool true) t37) fun t38 =>
  gdD t38 false (loadV (some 3) x1 g) (fun t40 =>
  gdD t38 false (loadV (some 3) x1 g) (fun t42 =>
  ((gd t38 false g (fun K => Ok Try.prog 43 [t40] g K) fun t41 g =>
  ((loadV (some 3) x1 g) = some t42 ∧ 
  ((gd t38 false g (fun K => Ok Try.prog 44 [t42] g K) fun t43 g =>
  
  gdV t38 false (binL Try.prog .neq 3 false t41 t43) fun t44 =>
  vK (pickL t38 (.bool true) t44) fun t45 =>
  ifB t45 (
  K (.bool false) g) (
  J10_3 x1 x3 x6 g  K)) ∧ True))) ∧ True)) (
  ((gd t38 false g (fun K => Ok Try.prog 43 [t40] g K) fun t41 g =>
  
  ((gd t38 false g (fun K => Ok Try.prog 44 [undefL] g K) fun t43 g =>
  
  gdV t38 false (binL Try.prog .neq 3 false t41 t43) fun t44 =>
  vK (pickL t38 (.bool true) t44) fun t45 =>
  ifB t45 (
  K (.bool false) g) (
  J10_3 x1 x3 x6 g  K)) ∧ True)) ∧ True))) (
  gdD t38 false (loadV (some 3) x1 g) (fun t42 =>
  ((gd t38 false g (fun K => Ok Try.prog 43 [undefL] g K) fun t41 g =>
  ((loadV (some 3) x1 g) = some t42 ∧ 
  ((gd t38 false g (fun K => Ok Try.prog 44 [t42] g K) fun t43 g =>
  
  gdV t38 false (binL Try.prog .neq 3 false t41 t43) fun t44 =>
  vK (pickL t38 (.bool true) t44) fun t45 =>
  ifB t45 (
  K (.bool false) g) (
  J10_3 x1 x3 x6 g  K)) ∧ True))) ∧ True)) (
  ((gd t38 false g (fun K => Ok Try.prog 43 [undefL] g K) fun t41 g =>
  
  ((gd t38 false g (fun K => Ok Try.prog 44 [undefL] g K) fun t43 g =>
  
  gdV t38 false (binL Try.prog .neq 3 false t41 t43) fun t44 =>
  vK (pickL t38 (.bool true) t44) fun t45 =>
  ifB t45 (
  K (.bool false) g) (
  J10_3 x1 x3 x6 g  K)) ∧ True)) ∧ True)))) ∧ True)) ∧ True))) (
  gdD t31 false (loadV (some 3) x1 g) (fun t35 =>
  ((gd t31 false g (fun K => Ok Try.prog 41 [undefL] g K) fun t34 g =>
  ((loadV (some 3) x1 g) = some t35 ∧ 
  ((gd t31 false g (fun K => Ok Try.prog 42 [t35] g K) fun t36 g =>
  
  gdV t31 false (binL Try.prog .neq 28 false t34 t36) fun t37 =>
  vK (pickL t31 (.bool true) t37) fun t38 =>
  gdD t38 false (loadV (some 3) x1 g) (fun t40 =>
  gdD t38 false (loadV (some 3) x1 g) (fun t42 =>
  ((gd t38 false g (fun K => Ok Try.prog 43 [t40] g K) fun t41 g =>
  ((loadV (some 3) x1 g) = some t42 ∧ 
  ((gd t38 false g (fun K => Ok Try.prog 44 [t42] g K) fun t43 g =>
  
  gdV t38 false (binL Try.prog .neq 3 false t41 t43) fun t44 =>
  vK (pickL t38 (.bool true) t44) fun t45 =>
  ifB t45 (
  K (.bool false) g) (
  J10_3 x1 x3 x6 g  K)) ∧ True))) ∧ True)) (
  ((gd t38 false g (fun K => Ok Try.prog 43 [t40] g K) fun t41 g =>
  
  ((gd t38 false g (fun K => Ok Try.prog 44 [undefL] g K) fun t43 g =>
  
  gdV t38 false (binL Try.prog .neq 3 false t41 t43) fun t44 =>
  vK (pickL t38 (.bool true) t44) fun t45 =>
  ifB t45 (
  K (.bool false) g) (
  J10_3 x1 x3 x6 g  K)) ∧ True)) ∧ True))) (
  gdD t38 false (loadV (some 3) x1 g) (fun t42 =>
  ((gd t38 false g (fun K => Ok Try.prog 43 [undefL] g K) fun t41 g =>
  ((loadV (some 3) x1 g) = some t42 ∧ 
  ((gd t38 false g (fun K => Ok Try.prog 44 [t42] g K) fun t43 g =>
  
  gdV t38 false (binL Try.prog .neq 3 false t41 t43) fun t44 =>
  vK (pickL t38 (.bool true) t44) fun t45 =>
  ifB t45 (
  K (.bool false) g) (
  J10_3 x1 x3 x6 g  K)) ∧ True))) ∧ True)) (
  ((gd t38 false g (fun K => Ok Try.prog 43 [undefL] g K) fun t41 g =>
  
  ((gd t38 false g (fun K => Ok Try.prog 44 [undefL] g K) fun t43 g =>
  
  gdV t38 false (binL Try.prog .neq 3 false t41 t43) fun t44 =>
  vK (pickL t38 (.bool true) t44) fun t45 =>
  ifB t45 (
  K (.bool false) g) (
  J10_3 x1 x3 x6 g  K)) ∧ True)) ∧ True)))) ∧ True))) ∧ True)) (
  ((gd t31 false g (fun K => Ok Try.prog 41 [undefL] g K) fun t34 g =>
  
  ((gd t31 false g (fun K => Ok Try.prog 42 [undefL] g K) fun t36 g =>
  
  gdV t31 false (binL Try.prog .neq 28 false t34 t36) fun t37 =>
  vK (pickL t31 (.bool true) t37) fun t38 =>
  gdD t38 false (loadV (some 3) x1 g) (fun t40 =>
  gdD t38 false (loadV (some 3) x1 g) (fun t42 =>
  ((gd t38 false g (fun K => Ok Try.prog 43 [t40] g K) fun t41 g =>
  ((loadV (some 3) x1 g) = some t42 ∧ 
  ((gd t38 false g (fun K => Ok Try.prog 44 [t42] g K) fun t43 g =>
  
  gdV t38 false (binL Try.prog .neq 3 false t41 t43) fun t44 =>
  vK (pickL t38 (.bool true) t44) fun t45 =>
  ifB t45 (
  K (.bool false) g) (
  J10_3 x1 x3 x6 g  K)) ∧ True))) ∧ True)) (
  ((gd t38 false g (fun K => Ok Try.prog 43 [t40] g K) fun t41 g =>
  
  ((gd t38 false g (fun K => Ok Try.prog 44 [undefL] g K) fun t43 g =>
  
  gdV t38 false (binL Try.prog .neq 3 false t41 t43) fun t44 =>
  vK (pickL t38 (.bool true) t44) fun t45 =>
  ifB t45 (
  K (.bool false) g) (
  J10_3 x1 x3 x6 g  K)) ∧ True)) ∧ True))) (
  gdD t38 false (loadV (some 3) x1 g) (fun t42 =>
  ((gd t38 false g (fun K => Ok Try.prog 43 [undefL] g K) fun t41 g =>
  ((loadV (some 3) x1 g) = some t42 ∧ 
  ((gd t38 false g (fun K => Ok Try.prog 44 [t42] g K) fun t43 g =>
  
  gdV t38 false (binL Try.prog .neq 3 false t41 t43) fun t44 =>
  vK (pickL t38 (.bool true) t44) fun t45 =>
  ifB t45 (
  K (.bool false) g) (
  J10_3 x1 x3 x6 g  K)) ∧ True))) ∧ True)) (
  ((gd t38 false g (fun K => Ok Try.prog 43 [undefL] g K) fun t41 g =>
  
  ((gd t38 false g (fun K => Ok Try.prog 44 [undefL] g K) fun t43 g =>
  
  gdV t38 false (binL Try.prog .neq 3 false t41 t43) fun t44 =>
  vK (pickL t38 (.bool true) t44) fun t45 =>
  ifB t45 (
  K (.bool false) g) (
  J10_3 x1 x3 x6 g  K)) ∧ True)) ∧ True)))) ∧ True)) ∧ True)))) (
  gdV t19 false (binL Try.prog .neq 9 false undefL undefL) fun t25 =>
  vK (pickL t19 (.bool true) t25) fun t26 =>
  gdV t26 false (some x4) fun t28 =>
  gdV t26 false (some x6) fun t29 =>
  gdV t26 false (binL Try.prog .neq 28 false t28 t29) fun t30 =>
  vK (pickL t26 (.bool true) t30) fun t31 =>
  gdD t31 false (loadV (some 3) x1 g) (fun t33 =>
  gdD t31 false (loadV (some 3) x1 g) (fun t35 =>
  ((gd t31 false g (fun K => Ok Try.prog 41 [t33] g K) fun t34 g =>
  ((loadV (some 3) x1 g) = some t35 ∧ 
  ((gd t31 false g (fun K => Ok Try.prog 42 [t35] g K) fun t36 g =>
  
  gdV t31 false (binL Try.prog .neq 28 false t34 t36) fun t37 =>
  vK (pickL t31 (.bool true) t37) fun t38 =>
  gdD t38 false (loadV (some 3) x1 g) (fun t40 =>
  gdD t38 false (loadV (some 3) x1 g) (fun t42 =>
  ((gd t38 false g (fun K => Ok Try.prog 43 [t40] g K) fun t41 g =>
  ((loadV (some 3) x1 g) = some t42 ∧ 
  ((gd t38 false g (fun K => Ok Try.prog 44 [t42] g K) fun t43 g =>
  
  gdV t38 false (binL Try.prog .neq 3 false t41 t43) fun t44 =>
  vK (pickL t38 (.bool true) t44) fun t45 =>
  ifB t45 (
  K (.bool false) g) (
  J10_3 x1 x3 x6 g  K)) ∧ True))) ∧ True)) (
  ((gd t38 false g (fun K => Ok Try.prog 43 [t40] g K) fun t41 g =>
  
  ((gd t38 false g (fun K => Ok Try.prog 44 [undefL] g K) fun t43 g =>
  
  gdV t38 false (binL Try.prog .neq 3 false t41 t43) fun t44 =>
  vK (pickL t38 (.bool true) t44) fun t45 =>
  ifB t45 (
  K (.bool false) g) (
  J10_3 x1 x3 x6 g  K)) ∧ True)) ∧ True))) (
  gdD t38 false (loadV (some 3) x1 g) (fun t42 =>
  ((gd t38 false g (fun K => Ok Try.prog 43 [undefL] g K) fun t41 g =>
  ((loadV (some 3) x1 g) = some t42 ∧ 
  ((gd t38 false g (fun K => Ok Try.prog 44 [t42] g K) fun t43 g =>
  
  gdV t38 false (binL Try.prog .neq 3 false t41 t43) fun t44 =>
  vK (pickL t38 (.bool true) t44) fun t45 =>
  ifB t45 (
  K (.bool false) g) (
  J10_3 x1 x3 x6 g  K)) ∧ True))) ∧ True)) (
  ((gd t38 false g (fun K => Ok Try.prog 43 [undefL] g K) fun t41 g =>
  
  ((gd t38 false g (fun K => Ok Try.prog 44 [undefL] g K) fun t43 g =>
  
  gdV t38 false (binL Try.prog .neq 3 false t41 t43) fun t44 =>
  vK (pickL t38 (.bool true) t44) fun t45 =>
  ifB t45 (
  K (.bool false) g) (
  J10_3 x1 x3 x6 g  K)) ∧ True)) ∧ True)))) ∧ True))) ∧ True)) (
  ((gd t31 false g (fun K => Ok Try.prog 41 [t33] g K) fun t34 g =>
  
  ((gd t31 false g (fun K => Ok Try.prog 42 [undefL] g K) fun t36 g =>
  
  gdV t31 false (binL Try.prog .neq 28 false t34 t36) fun t37 =>
  vK (pickL t31 (.bool true) t37) fun t38 =>
  gdD t38 false (loadV (some 3) x1 g) (fun t40 =>
  gdD t38 false (loadV (some 3) x1 g) (fun t42 =>
  ((gd t38 false g (fun K => Ok Try.prog 43 [t40] g K) fun t41 g =>
  ((loadV (some 3) x1 g) = some t42 ∧ 
  ((gd t38 false g (fun K => Ok Try.prog 44 [t42] g K) fun t43 g =>
  
  gdV t38 false (binL Try.prog .neq 3 false t41 t43) fun t44 =>
  vK (pickL t38 (.bool true) t44) fun t45 =>
  ifB t45 (
  K (.bool false) g) (
  J10_3 x1 x3 x6 g  K)) ∧ True))) ∧ True)) (
  ((gd t38 false g (fun K => Ok Try.prog 43 [t40] g K) fun t41 g =>
  
  ((gd t38 false g (fun K => Ok Try.prog 44 [undefL] g K) fun t43 g =>
  
  gdV t38 false (binL Try.prog .neq 3 false t41 t43) fun t44 =>
  vK (pickL t38 (.bool true) t44) fun t45 =>
  ifB t45 (
  K (.bool false) g) (
  J10_3 x1 x3 x6 g  K)) ∧ True)) ∧ True))) (
  gdD t38 false (loadV (some 3) x1 g) (fun t42 =>
  ((gd t38 false g (fun K => Ok Try.prog 43 [undefL] g K) fun t41 g =>
  ((loadV (some 3) x1 g) = some t42 ∧ 
  ((gd t38 false g (fun K => Ok Try.prog 44 [t42] g K) fun t43 g =>
  
  gdV t38 false (binL Try.prog .neq 3 false t41 t43) fun t44 =>
  vK (pickL t38 (.bool true) t44) fun t45 =>
  ifB t45 (
  K (.bool false) g) (
  J10_3 x1 x3 x6 g  K)) ∧ True))) ∧ True)) (
  ((gd t38 false g (fun K => Ok Try.prog 43 [undefL] g K) fun t41 g =>
  
  ((gd t38 false g (fun K => Ok Try.prog 44 [undefL] g K) fun t43 g =>
  
  gdV t38 false (binL Try.prog .neq 3 false t41 t43) fun t44 =>
  vK (pickL t38 (.bool true) t44) fun t45 =>
  ifB t45 (
  K (.bool false) g) (
  J10_3 x1 x3 x6 g  K)) ∧ True)) ∧ True)))) ∧ True)) ∧ True))) (
  gdD t31 false (loadV (some 3) x1 g) (fun t35 =>
  ((gd t31 false g (fun K => Ok Try.prog 41 [undefL] g K) fun t34 g =>
  ((loadV (some 3) x1 g) = some t35 ∧ 
  ((gd t31 false g (fun K => Ok Try.prog 42 [t35] g K) fun t36 g =>
  
  gdV t31 false (binL Try.prog .neq 28 false t34 t36) fun t37 =>
  vK (pickL t31 (.bool true) t37) fun t38 =>
  gdD t38 false (loadV (some 3) x1 g) (fun t40 =>
  gdD t38 false (loadV (some 3) x1 g) (fun t42 =>
  ((gd t38 false g (fun K => Ok Try.prog 43 [t40] g K) fun t41 g =>
  ((loadV (some 3) x1 g) = some t42 ∧ 
  ((gd t38 false g (fun K => Ok Try.prog 44 [t42] g K) fun t43 g =>
  
  gdV t38 false (binL Try.prog .neq 3 false t41 t43) fun t44 =>
  vK (pickL t38 (.bool true) t44) fun t45 =>
  ifB t45 (
  K (.bool false) g) (
  J10_3 x1 x3 x6 g  K)) ∧ True))) ∧ True)) (
  ((gd t38 false g (fun K => Ok Try.prog 43 [t40] g K) fun t41 g =>
  
  ((gd t38 false g (fun K => Ok Try.prog 44 [undefL] g K) fun t43 g =>
  
  gdV t38 false (binL Try.prog .neq 3 false t41 t43) fun t44 =>
  vK (pickL t38 (.bool true) t44) fun t45 =>
  ifB t45 (
  K (.bool false) g) (
  J10_3 x1 x3 x6 g  K)) ∧ True)) ∧ True))) (
  gdD t38 false (loadV (some 3) x1 g) (fun t42 =>
  ((gd t38 false g (fun K => Ok Try.prog 43 [undefL] g K) fun t41 g =>
  ((loadV (some 3) x1 g) = some t42 ∧ 
  ((gd t38 false g (fun K => Ok Try.prog 44 [t42] g K) fun t43 g =>
  
  gdV t38 false (binL Try.prog .neq 3 false t41 t43) fun t44 =>
  vK (pickL t38 (.bool true) t44) fun t45 =>
  ifB t45 (
  K (.bool false) g) (
  J10_3 x1 x3 x6 g  K)) ∧ True))) ∧ True)) (
  ((gd t38 false g (fun K => Ok Try.prog 43 [undefL] g K) fun t41 g =>
  
  ((gd t38 false g (fun K => Ok Try.prog 44 [undefL] g K) fun t43 g =>
  
  gdV t38 false (binL Try.prog .neq 3 false t41 t43) fun t44 =>
  vK (pickL t38 (.bool true) t44) fun t45 =>
  ifB t45 (
  K (.bool false) g) (
  J10_3 x1 x3 x6 g  K)) ∧ True)) ∧ True)))) ∧ True))) ∧ True)) (
  ((gd t31 false g (fun K => Ok Try.prog 41 [undefL] g K) fun t34 g =>
  
  ((gd t31 false g (fun K => Ok Try.prog 42 [undefL] g K) fun t36 g =>
  
  gdV t31 false (binL Try.prog .neq 28 false t34 t36) fun t37 =>
  vK (pickL t31 (.bool true) t37) fun t38 =>
  gdD t38 false (loadV (some 3) x1 g) (fun t40 =>
  gdD t38 false (loadV (some 3) x1 g) (fun t42 =>
  ((gd t38 false g (fun K => Ok Try.prog 43 [t40] g K) fun t41 g =>
  ((loadV (some 3) x1 g) = some t42 ∧ 
  ((gd t38 false g (fun K => Ok Try.prog 44 [t42] g K) fun t43 g =>
  
  gdV t38 false (binL Try.prog .neq 3 false t41 t43) fun t44 =>
  vK (pickL t38 (.bool true) t44) fun t45 =>
  ifB t45 (
  K (.bool false) g) (
  J10_3 x1 x3 x6 g  K)) ∧ True))) ∧ True)) (
  ((gd t38 false g (fun K => Ok Try.prog 43 [t40] g K) fun t41 g =>
  
  ((gd t38 false g (fun K => Ok Try.prog 44 [undefL] g K) fun t43 g =>
  
  gdV t38 false (binL Try.prog .neq 3 false t41 t43) fun t44 =>
  vK (pickL t38 (.bool true) t44) fun t45 =>
  ifB t45 (
  K (.bool false) g) (
  J10_3 x1 x3 x6 g  K)) ∧ True)) ∧ True))) (
  gdD t38 false (loadV (some 3) x1 g) (fun t42 =>
  ((gd t38 false g (fun K => Ok Try.prog 43 [undefL] g K) fun t41 g =>
  ((loadV (some 3) x1 g) = some t42 ∧ 
  ((gd t38 false g (fun K => Ok Try.prog 44 [t42] g K) fun t43 g =>
  
  gdV t38 false (binL Try.prog .neq 3 false t41 t43) fun t44 =>
  vK (pickL t38 (.bool true) t44) fun t45 =>
  ifB t45 (
  K (.bool false) g) (
  J10_3 x1 x3 x6 g  K)) ∧ True))) ∧ True)) (
  ((gd t38 false g (fun K => Ok Try.prog 43 [undefL] g K) fun t41 g =>
  
  ((gd t38 false g (fun K => Ok Try.prog 44 [undefL] g K) fun t43 g =>
  
  gdV t38 false (binL Try.prog .neq 3 false t41 t43) fun t44 =>
  vK (pickL t38 (.bool true) t44) fun t45 =>
  ifB t45 (
  K (.bool false) g) (
  J10_3 x1 x3 x6 g  K)) ∧ True)) ∧ True)))) ∧ True)) ∧ True)))))) ∧ True)
abbrev kj10_2  (K : LV → LHeap → Prop) : LSt → Prop := fun st => J10_2 (st.tm 1) (st.tm 3) (st.tm 4) (st.tm 5) (st.tm 6) st.g  K
theorem J10_2_ok  (K : LV → LHeap → Prop) (tm : Nat → LV) (g : LHeap) (h : J10_2 (tm 1) (tm 3) (tm 4) (tm 5) (tm 6) g  K) : codeL Try.prog (Ok Try.prog) (nd10 [1, 1, 1]) ⟨tm, g⟩ (en10 K) := by
  refine seq_i (a := nd10 [1, 1, 1, 0]) (b := nd10 [1, 1, 1, 1]) (k' := kj10_3  K) (by kernel_rfl) (fun st h => J10_3_ok  K st.tm st.g h) ?_
  try unfold J10_2 at h
  unfold kj10_3
  generalize @J10_3 = Q10_3 at h ⊢
  refine code3_sound ok_mono (pl := [(3, (.hv 0 (.lt 1 false (.lt 2 false (.lt 3 false (.lt 4 true (.lt 5 false (.lt 6 true (.lt 7 false (.lt 8 false (.lt 9 false (.lt 10 false (.lt 11 false (.lt 12 false (.lt 13 false (.lt 14 false (.lt 15 true (.lt 17 true (.hv 16 (.hv 18 (.lt 19 false (.lt 20 false (.lt 21 false (.lt 22 true (.lt 24 true (.hv 23 (.hv 25 (.lt 26 false (.lt 27 false .nil)) .nil) .nil)))))) .nil) .nil))))))))))))))))) .nil))]) _ _ _ (by kernel_rfl) ?_
  refine kmp ?_ h
  generalize Ok Try.prog = C
  unfold en10
  as_aux_lemma => kernel_rfl

noncomputable def J10_1 (x1 x3 x4 : LV) (g : LHeap)  (K : LV → LHeap → Prop) : Prop :=
  vK (loadV (some 3) x1 g) fun t14 =>
  Ok Try.prog 40 [t14] g fun t15 g =>
  vK (extractL t15 0) fun t16 =>
  vK (extractL t15 1) fun t17 =>
  J10_2 x1 x3 x4 t16 t17 g  K
abbrev kj10_1  (K : LV → LHeap → Prop) : LSt → Prop := fun st => J10_1 (st.tm 1) (st.tm 3) (st.tm 4) st.g  K
theorem J10_1_ok  (K : LV → LHeap → Prop) (tm : Nat → LV) (g : LHeap) (h : J10_1 (tm 1) (tm 3) (tm 4) g  K) : codeL Try.prog (Ok Try.prog) (nd10 [1, 1]) ⟨tm, g⟩ (en10 K) := by
  refine seq_i (a := nd10 [1, 1, 0]) (b := nd10 [1, 1, 1]) (k' := kj10_2  K) (by kernel_rfl) (fun st h => J10_2_ok  K st.tm st.g h) ?_
  try unfold J10_1 at h
  unfold kj10_2
  generalize @J10_2 = Q10_2 at h ⊢
  refine code2_sound ok_mono _ _ _ ?_
  refine kmp ?_ h
  generalize Ok Try.prog = C
  unfold en10
  as_aux_lemma => kernel_rfl

noncomputable def J10_0 (x1 : LV) (g : LHeap)  (K : LV → LHeap → Prop) : Prop :=
  vK (loadV (some 3) x1 g) fun t9 =>
  Ok Try.prog 18 [t9] g fun t10 g =>
  vK (extractL t10 0) fun t11 =>
  vK (extractL t10 1) fun t12 =>
  J10_1 x1 t11 t12 g  K
abbrev kj10_0  (K : LV → LHeap → Prop) : LSt → Prop := fun st => J10_0 (st.tm 1) st.g  K
theorem J10_0_ok  (K : LV → LHeap → Prop) (tm : Nat → LV) (g : LHeap) (h : J10_0 (tm 1) g  K) : codeL Try.prog (Ok Try.prog) (nd10 [1]) ⟨tm, g⟩ (en10 K) := by
  refine seq_i (a := nd10 [1, 0]) (b := nd10 [1, 1]) (k' := kj10_1  K) (by kernel_rfl) (fun st h => J10_1_ok  K st.tm st.g h) ?_
  try unfold J10_0 at h
  unfold kj10_1
  generalize @J10_1 = Q10_1 at h ⊢
  refine code2_sound ok_mono _ _ _ ?_
  refine kmp ?_ h
  generalize Ok Try.prog = C
  unfold en10
  as_aux_lemma => kernel_rfl

noncomputable def F10 (x0 : LV) (g : LHeap) (K : LV → LHeap → Prop) : Prop :=
  oK (newL x0 g) fun t1 g =>
  J10_0 t1 g  K
theorem ok10 {x0 : LV} {g : LHeap} {K : LV → LHeap → Prop} (h : g.Wf → (∀ v ∈ ([x0] : List LV), ∀ b ∈ v.objs, b < g.next) → F10 x0 g K) : Ok Try.prog 10 [x0] g K := by
  refine ok_fw Try.mixed Try.func10 (by kernel_rfl) (by kernel_rfl) (c := nd10 []) (by kernel_rfl) fun wf lt => ?_
  rw [← en10_eq]
  replace h := h wf lt
  generalize hs : startL _ = tm
  replace h : F10 (tm 0) g K := by rw [← hs]; exact h
  refine seq_i (a := nd10 [0]) (b := nd10 [1]) (k' := kj10_0  K) (by kernel_rfl) (fun st h => J10_0_ok  K st.tm st.g h) ?_
  try unfold F10 at h
  unfold kj10_0
  generalize @J10_0 = Q10_0 at h ⊢
  refine code2_sound ok_mono _ _ _ ?_
  refine kmp ?_ h
  generalize Ok Try.prog = C
  unfold en10
  as_aux_lemma => kernel_rfl

/-! parapet/parapetlaw23.ImageLonger (78 slots) -/
noncomputable def en5 (K : LV → LHeap → Prop) : LEx → LSt → Prop := fun e st => match e with
  | .exit _ => False
  | _ => K (st.tm 6) st.g
theorem en5_eq (K : LV → LHeap → Prop) : en5 K = endL Try.prog Try.f5 K := by
  funext e st
  cases e <;> kernel_rfl
noncomputable def nd5 (p : List Nat) : Code := subC p (bodyC Try.prog 5)
noncomputable def J5_7 (x7 x11 : LV) (g : LHeap)  (K : LV → LHeap → Prop) : Prop :=
  vK (cutT Try.prog 23 x7 none (some x11) none (limL x7 g)) fun t72 =>
  Ok Try.prog 14 [t72] g fun t73 g =>
  vK (extractL t73 0) fun t74 =>
  vK (extractL t73 1) fun t75 =>
  vK (binL Try.prog .eql 28 true t75 (.int .i64 (230))) fun t77 =>
  K t77 g
abbrev kj5_7  (K : LV → LHeap → Prop) : LSt → Prop := fun st => J5_7 (st.tm 7) (st.tm 11) st.g  K
theorem J5_7_ok  (K : LV → LHeap → Prop) (tm : Nat → LV) (g : LHeap) (h : J5_7 (tm 7) (tm 11) g  K) : codeL Try.prog (Ok Try.prog) (nd5 [1, 1, 1, 1, 1, 1, 1, 1]) ⟨tm, g⟩ (en5 K) := by
  try unfold J5_7 at h
  refine code2_sound ok_mono _ _ _ ?_
  refine kmp ?_ h
  generalize Ok Try.prog = C
  unfold en5
  as_aux_lemma => kernel_rfl

noncomputable def J5_6 (x7 x11 : LV) (g : LHeap)  (K : LV → LHeap → Prop) : Prop :=
  vK (binL Try.prog .lss 3 true x11 (.int .i64 (0))) fun t64 =>
  ifB t64 (
  oK (builtinL Try.prog .len [23] [x7] g) fun t67 g =>
  vK (binL Try.prog .add 3 false x11 t67) fun t68 =>
  J5_7 x7 t68 g  K) (
  J5_7 x7 x11 g  K)
abbrev kj5_6  (K : LV → LHeap → Prop) : LSt → Prop := fun st => J5_6 (st.tm 7) (st.tm 11) st.g  K
theorem J5_6_ok  (K : LV → LHeap → Prop) (tm : Nat → LV) (g : LHeap) (h : J5_6 (tm 7) (tm 11) g  K) : codeL Try.prog (Ok Try.prog) (nd5 [1, 1, 1, 1, 1, 1, 1]) ⟨tm, g⟩ (en5 K) := by
  refine seq_i (a := nd5 [1, 1, 1, 1, 1, 1, 1, 0]) (b := nd5 [1, 1, 1, 1, 1, 1, 1, 1]) (k' := kj5_7  K) (by kernel_rfl) (fun st h => J5_7_ok  K st.tm st.g h) ?_
  try unfold J5_6 at h
  unfold kj5_7
  generalize @J5_7 = Q5_7 at h ⊢
  refine code2_sound ok_mono _ _ _ ?_
  refine kmp ?_ h
  generalize Ok Try.prog = C
  unfold en5
  as_aux_lemma => kernel_rfl

noncomputable def J5_5 (x2 x7 : LV) (g : LHeap)  (K : LV → LHeap → Prop) : Prop :=
  oK (builtinL Try.prog .len [23] [x7] g) fun t61 g =>
  vK (binL Try.prog .rem 3 false x2 t61) fun t62 =>
  J5_6 x7 t62 g  K
abbrev kj5_5  (K : LV → LHeap → Prop) : LSt → Prop := fun st => J5_5 (st.tm 2) (st.tm 7) st.g  K
theorem J5_5_ok  (K : LV → LHeap → Prop) (tm : Nat → LV) (g : LHeap) (h : J5_5 (tm 2) (tm 7) g  K) : codeL Try.prog (Ok Try.prog) (nd5 [1, 1, 1, 1, 1, 1]) ⟨tm, g⟩ (en5 K) := by
  refine seq_i (a := nd5 [1, 1, 1, 1, 1, 1, 0]) (b := nd5 [1, 1, 1, 1, 1, 1, 1]) (k' := kj5_6  K) (by kernel_rfl) (fun st h => J5_6_ok  K st.tm st.g h) ?_
  try unfold J5_5 at h
  unfold kj5_6
  generalize @J5_6 = Q5_6 at h ⊢
  refine code2_sound ok_mono _ _ _ ?_
  refine kmp ?_ h
  generalize Ok Try.prog = C
  unfold en5
  as_aux_lemma => kernel_rfl

noncomputable def J5_4 (x1 x2 x3 x7 x9 x10 : LV) (g : LHeap)  (K : LV → LHeap → Prop) : Prop :=
  oK (builtinL Try.prog .len [23] [x1] g) fun t38 g =>
  vK (binL Try.prog .gtr 3 true t38 (.int .i64 (0))) fun t39 =>
  gd t39 true g (fun K => K x10 g) fun t41 g =>
  gd t39 true g (fun K => vK (binL Try.prog .neq 28 true t41 (.int .i64 (230))) fun v => K v g) fun t42 g =>
  vK (pickL t39 t42 (.bool false)) fun t43 =>
  gd t43 false g (fun K => K x1 g) fun t45 g =>
  gd t43 false g (fun K => oK (builtinL Try.prog .len [23] [t45] g) K) fun t46 g =>
  gd t43 false g (fun K => vK (binL Try.prog .eql 3 true t46 (.int .i64 (0))) fun v => K v g) fun t47 g =>
  gd t43 false g (fun K => K t47 g) fun t48 g =>
  gd t48 true g (fun K => K x10 g) fun t49 g =>
  gd t48 true g (fun K => vK (binL Try.prog .neq 28 true t49 (.int .i64 (0))) fun v => K v g) fun t50 g =>
  gd t48 true g (fun K => K t50 g) fun t51 g =>
  gd t51 false g (fun K => vK (loadV (some 3) x3 g) fun v => K v g) fun t52 g =>
  gd t51 false g (fun K => vK (loadV (some 3) x9 g) fun v => K v g) fun t53 g =>
  gd t51 false g (fun K => Ok Try.prog 17 [t52, t53] g K) fun t54 g =>
  gd t51 false g (fun K => vK (unL .not t54) fun v => K v g) fun t55 g =>
  gd t48 true g (fun K => vK (pickL t51 (.bool true) t55) fun v => K v g) fun t56 g =>
  gd t43 false g (fun K => vK (pickL t48 t56 (.bool false)) fun v => K v g) fun t57 g =>
  vK (pickL t43 (.bool true) t57) fun t58 =>
  ifB t58 (
  K (.bool false) g) (
  J5_5 x2 x7 g  K)
abbrev kj5_4  (K : LV → LHeap → Prop) : LSt → Prop := fun st => J5_4 (st.tm 1) (st.tm 2) (st.tm 3) (st.tm 7) (st.tm 9) (st.tm 10) st.g  K
theorem J5_4_ok  (K : LV → LHeap → Prop) (tm : Nat → LV) (g : LHeap) (h : J5_4 (tm 1) (tm 2) (tm 3) (tm 7) (tm 9) (tm 10) g  K) : codeL Try.prog (Ok Try.prog) (nd5 [1, 1, 1, 1, 1]) ⟨tm, g⟩ (en5 K) := by
  refine seq_i (a := nd5 [1, 1, 1, 1, 1, 0]) (b := nd5 [1, 1, 1, 1, 1, 1]) (k' := kj5_5  K) (by kernel_rfl) (fun st h => J5_5_ok  K st.tm st.g h) ?_
  try unfold J5_4 at h
  unfold kj5_5
  generalize @J5_5 = Q5_5 at h ⊢
  refine code2_sound ok_mono _ _ _ ?_
  refine kmp ?_ h
  generalize Ok Try.prog = C
  unfold en5
  as_aux_lemma => kernel_rfl

noncomputable def J5_3 (x1 x2 x3 x7 : LV) (g : LHeap)  (K : LV → LHeap → Prop) : Prop :=
  oK (buildSliceL Try.prog 23 0 [] g) fun t29 g =>
  oK (builtinL Try.prog .append [23, 23] [t29, x7] g) fun t31 g =>
  oK (builtinL Try.prog .append [23, 23] [t31, x1] g) fun t33 g =>
  Ok Try.prog 14 [t33] g fun t34 g =>
  vK (extractL t34 0) fun t35 =>
  vK (extractL t34 1) fun t36 =>
  oK (newL (.agg [(.int .i64 (0)), .nils, .nils]) g) fun t9 g =>
  gK (storeV 3 t9 t35 g) fun g =>
  J5_4 x1 x2 x3 x7 t9 t36 g  K
abbrev kj5_3  (K : LV → LHeap → Prop) : LSt → Prop := fun st => J5_3 (st.tm 1) (st.tm 2) (st.tm 3) (st.tm 7) st.g  K
theorem J5_3_ok  (K : LV → LHeap → Prop) (tm : Nat → LV) (g : LHeap) (h : J5_3 (tm 1) (tm 2) (tm 3) (tm 7) g  K) : codeL Try.prog (Ok Try.prog) (nd5 [1, 1, 1, 1]) ⟨tm, g⟩ (en5 K) := by
  refine seq_i (a := nd5 [1, 1, 1, 1, 0]) (b := nd5 [1, 1, 1, 1, 1]) (k' := kj5_4  K) (by kernel_rfl) (fun st h => J5_4_ok  K st.tm st.g h) ?_
  try unfold J5_3 at h
  unfold kj5_4
  generalize @J5_4 = Q5_4 at h ⊢
  refine code2_sound ok_mono _ _ _ ?_
  refine kmp ?_ h
  generalize Ok Try.prog = C
  unfold en5
  as_aux_lemma => kernel_rfl

noncomputable def J5_2 (x1 x2 x3 x7 x8 : LV) (g : LHeap)  (K : LV → LHeap → Prop) : Prop :=
  vK (binL Try.prog .neq 28 true x8 (.int .i64 (0))) fun t20 =>
  ifB t20 (
  oK (builtinL Try.prog .len [23] [x7] g) fun t22 g =>
  vK (binL Try.prog .eql 3 true t22 (.int .i64 (0))) fun t23 =>
  gd t23 true g (fun K => K x8 g) fun t25 g =>
  gd t23 true g (fun K => vK (binL Try.prog .eql 28 true t25 (.int .i64 (230))) fun v => K v g) fun t26 g =>
  vK (pickL t23 t26 (.bool false)) fun t27 =>
  K t27 g) (
  J5_3 x1 x2 x3 x7 g  K)
abbrev kj5_2  (K : LV → LHeap → Prop) : LSt → Prop := fun st => J5_2 (st.tm 1) (st.tm 2) (st.tm 3) (st.tm 7) (st.tm 8) st.g  K
theorem J5_2_ok  (K : LV → LHeap → Prop) (tm : Nat → LV) (g : LHeap) (h : J5_2 (tm 1) (tm 2) (tm 3) (tm 7) (tm 8) g  K) : codeL Try.prog (Ok Try.prog) (nd5 [1, 1, 1]) ⟨tm, g⟩ (en5 K) := by
  refine seq_i (a := nd5 [1, 1, 1, 0]) (b := nd5 [1, 1, 1, 1]) (k' := kj5_3  K) (by kernel_rfl) (fun st h => J5_3_ok  K st.tm st.g h) ?_
  try unfold J5_2 at h
  unfold kj5_3
  generalize @J5_3 = Q5_3 at h ⊢
  refine code2_sound ok_mono _ _ _ ?_
  refine kmp ?_ h
  generalize Ok Try.prog = C
  unfold en5
  as_aux_lemma => kernel_rfl

noncomputable def J5_1 (x1 x2 x3 x7 x8 : LV) (g : LHeap)  (K : LV → LHeap → Prop) : Prop :=
  Ok Try.prog 16 [] g fun t17 g =>
  vK (unL .not t17) fun t18 =>
  ifB t18 (
  K (.bool false) g) (
  J5_2 x1 x2 x3 x7 x8 g  K)
abbrev kj5_1  (K : LV → LHeap → Prop) : LSt → Prop := fun st => J5_1 (st.tm 1) (st.tm 2) (st.tm 3) (st.tm 7) (st.tm 8) st.g  K
theorem J5_1_ok  (K : LV → LHeap → Prop) (tm : Nat → LV) (g : LHeap) (h : J5_1 (tm 1) (tm 2) (tm 3) (tm 7) (tm 8) g  K) : codeL Try.prog (Ok Try.prog) (nd5 [1, 1]) ⟨tm, g⟩ (en5 K) := by
  refine seq_i (a := nd5 [1, 1, 0]) (b := nd5 [1, 1, 1]) (k' := kj5_2  K) (by kernel_rfl) (fun st h => J5_2_ok  K st.tm st.g h) ?_
  try unfold J5_1 at h
  unfold kj5_2
  generalize @J5_2 = Q5_2 at h ⊢
  refine code2_sound ok_mono _ _ _ ?_
  refine kmp ?_ h
  generalize Ok Try.prog = C
  unfold en5
  as_aux_lemma => kernel_rfl

noncomputable def J5_0 (x1 x2 x3 : LV) (g : LHeap)  (K : LV → LHeap → Prop) : Prop :=
  vK (loadV (some 3) x3 g) fun t13 =>
  Ok Try.prog 18 [t13] g fun t14 g =>
  vK (extractL t14 0) fun t15 =>
  vK (extractL t14 1) fun t16 =>
  J5_1 x1 x2 x3 t15 t16 g  K
abbrev kj5_0  (K : LV → LHeap → Prop) : LSt → Prop := fun st => J5_0 (st.tm 1) (st.tm 2) (st.tm 3) st.g  K
theorem J5_0_ok  (K : LV → LHeap → Prop) (tm : Nat → LV) (g : LHeap) (h : J5_0 (tm 1) (tm 2) (tm 3) g  K) : codeL Try.prog (Ok Try.prog) (nd5 [1]) ⟨tm, g⟩ (en5 K) := by
  refine seq_i (a := nd5 [1, 0]) (b := nd5 [1, 1]) (k' := kj5_1  K) (by kernel_rfl) (fun st h => J5_1_ok  K st.tm st.g h) ?_
  try unfold J5_0 at h
  unfold kj5_1
  generalize @J5_1 = Q5_1 at h ⊢
  refine code2_sound ok_mono _ _ _ ?_
  refine kmp ?_ h
  generalize Ok Try.prog = C
  unfold en5
  as_aux_lemma => kernel_rfl

noncomputable def F5 (x0 x1 x2 : LV) (g : LHeap) (K : LV → LHeap → Prop) : Prop :=
  oK (newL x0 g) fun t3 g =>
  J5_0 x1 x2 t3 g  K
theorem ok5 {x0 x1 x2 : LV} {g : LHeap} {K : LV → LHeap → Prop} (h : g.Wf → (∀ v ∈ ([x0, x1, x2] : List LV), ∀ b ∈ v.objs, b < g.next) → F5 x0 x1 x2 g K) : Ok Try.prog 5 [x0, x1, x2] g K := by
  refine ok_fw Try.mixed Try.func5 (by kernel_rfl) (by kernel_rfl) (c := nd5 []) (by kernel_rfl) fun wf lt => ?_
  rw [← en5_eq]
  replace h := h wf lt
  generalize hs : startL _ = tm
  replace h : F5 (tm 0) (tm 1) (tm 2) g K := by rw [← hs]; exact h
  refine seq_i (a := nd5 [0]) (b := nd5 [1]) (k' := kj5_0  K) (by kernel_rfl) (fun st h => J5_0_ok  K st.tm st.g h) ?_
  try unfold F5 at h
  unfold kj5_0
  generalize @J5_0 = Q5_0 at h ⊢
  refine code2_sound ok_mono _ _ _ ?_
  refine kmp ?_ h
  generalize Ok Try.prog = C
  unfold en5
  as_aux_lemma => kernel_rfl

/-! parapet/parapetlaw23.ImageParses (73 slots) -/
noncomputable def en4 (K : LV → LHeap → Prop) : LEx → LSt → Prop := fun e st => match e with
  | .exit _ => False
  | _ => K (st.tm 2) st.g
theorem en4_eq (K : LV → LHeap → Prop) : en4 K = endL Try.prog Try.f4 K := by
  funext e st
  cases e <;> kernel_rfl
noncomputable def nd4 (p : List Nat) : Code := subC p (bodyC Try.prog 4)
noncomputable def J4_5 (x0 x4 x7 : LV) (g : LHeap)  (K : LV → LHeap → Prop) : Prop :=
  vK (binL Try.prog .neq 28 true x7 (.int .i64 (0))) fun t58 =>
  ifB t58 (
  K (.bool true) g) (
  vK (loadV (some 3) x4 g) fun t60 =>
  Ok Try.prog 18 [t60] g fun t61 g =>
  vK (extractL t61 0) fun t62 =>
  vK (extractL t61 1) fun t63 =>
  vK (binL Try.prog .eql 28 true t63 (.int .i64 (0))) fun t65 =>
  gd t65 true g (fun K => K t62 g) fun t67 g =>
  gd t65 true g (fun K => oK (convL Try.prog 23 9 t67 g) K) fun t68 g =>
  gd t65 true g (fun K => K x0 g) fun t69 g =>
  gd t65 true g (fun K => oK (convL Try.prog 23 9 t69 g) K) fun t70 g =>
  gd t65 true g (fun K => vK (binL Try.prog .eql 9 false t68 t70) fun v => K v g) fun t71 g =>
  vK (pickL t65 t71 (.bool false)) fun t72 =>
  K t72 g)
abbrev kj4_5  (K : LV → LHeap → Prop) : LSt → Prop := fun st => J4_5 (st.tm 0) (st.tm 4) (st.tm 7) st.g  K
theorem J4_5_ok  (K : LV → LHeap → Prop) (tm : Nat → LV) (g : LHeap) (h : J4_5 (tm 0) (tm 4) (tm 7) g  K) : codeL Try.prog (Ok Try.prog) (nd4 [1, 1, 1, 1, 1, 1]) ⟨tm, g⟩ (en4 K) := by
  try unfold J4_5 at h
  refine code2_sound ok_mono _ _ _ ?_
  refine kmp ?_ h
  generalize Ok Try.prog = C
  unfold en4
  as_aux_lemma => kernel_rfl

noncomputable def L4_7 (x0 x3 x4 x7 : LV) (x8 : LV) (g : LHeap) (N7 : LV → LHeap → Prop) (K : LV → LHeap → Prop) : Prop :=
  oK (builtinL Try.prog .len [23] [x3] g) fun t45 g =>
  vK (binL Try.prog .lss 3 false x8 t45) fun t46 =>
  ifB t46 (
  vK (ixAddrL none 1 x3 x8) fun t53 =>
  vK (loadV none t53 g) fun t54 =>
  vK (binL Try.prog .add 5 true t54 (.int .u8 (1))) fun t55 =>
  vK (ixAddrL none 1 x3 x8) fun t56 =>
  gK (storeV 1 t56 t55 g) fun g =>
  vK (binL Try.prog .add 3 true x8 (.int .i64 (1))) fun t48 =>
  N7 t48 g) (
  J4_5 x0 x4 x7 g  K)
theorem L4_7_ok (R7 : LV × LV × LV × LV → LV → LHeap → Prop) (K : LV → LHeap → Prop) (tm : Nat → LV) (g : LHeap) (h : L4_7 (tm 0) (tm 3) (tm 4) (tm 7) (tm 8) g (fun s g => R7 ((tm 0), (tm 3), (tm 4), (tm 7)) s g) K) : codeL Try.prog (Ok Try.prog) (nd4 [1, 1, 1, 1, 1, 0, 1, 0, 0]) ⟨tm, g⟩ (roundK (fun tm : Nat → LV => (tm 0, tm 3, tm 4, tm 7)) (fun tm : Nat → LV => tm 8) R7 (exitL 0 (thenL (kj4_5  K) (en4 K)))) := by
  try unfold L4_7 at h
  unfold kj4_5
  generalize @J4_5 = Q4_5 at h ⊢
  refine code2_sound ok_mono _ _ _ ?_
  refine kmp ?_ h
  generalize Ok Try.prog = C
  unfold en4
  as_aux_lemma => kernel_rfl

noncomputable def J4_6 (x0 x3 x4 x7 x8 : LV) (g : LHeap)  (K : LV → LHeap → Prop) : Prop :=
  loopP (fun s g N => L4_7 x0 x3 x4 x7 s g N  K) x8 g
abbrev kj4_6  (K : LV → LHeap → Prop) : LSt → Prop := fun st => J4_6 (st.tm 0) (st.tm 3) (st.tm 4) (st.tm 7) (st.tm 8) st.g  K
theorem J4_6_ok  (K : LV → LHeap → Prop) (tm : Nat → LV) (g : LHeap) (h : J4_6 (tm 0) (tm 3) (tm 4) (tm 7) (tm 8) g  K) : codeL Try.prog (Ok Try.prog) (nd4 [1, 1, 1, 1, 1, 0, 1]) ⟨tm, g⟩ (thenL (kj4_5  K) (en4 K)) := by
  refine block_i (b := nd4 [1, 1, 1, 1, 1, 0, 1, 0]) (i := 0) (by kernel_rfl) ?_
  exact loop_glue (b := nd4 [1, 1, 1, 1, 1, 0, 1, 0, 0]) (by kernel_rfl) (fun tm : Nat → LV => (tm 0, tm 3, tm 4, tm 7)) (fun tm : Nat → LV => tm 8) (fun a s g N => L4_7 a.1 a.2.1 a.2.2.1 a.2.2.2 s g N  K) (fun tm g R h => L4_7_ok R  K tm g h) tm g h

noncomputable def J4_4 (x0 x3 x4 x7 : LV) (g : LHeap)  (K : LV → LHeap → Prop) : Prop :=
  J4_6 x0 x3 x4 x7 (.int .i64 (0)) g  K
abbrev kj4_4  (K : LV → LHeap → Prop) : LSt → Prop := fun st => J4_4 (st.tm 0) (st.tm 3) (st.tm 4) (st.tm 7) st.g  K
theorem J4_4_ok  (K : LV → LHeap → Prop) (tm : Nat → LV) (g : LHeap) (h : J4_4 (tm 0) (tm 3) (tm 4) (tm 7) g  K) : codeL Try.prog (Ok Try.prog) (nd4 [1, 1, 1, 1, 1]) ⟨tm, g⟩ (en4 K) := by
  refine seq_i (a := nd4 [1, 1, 1, 1, 1, 0]) (b := nd4 [1, 1, 1, 1, 1, 1]) (k' := kj4_5  K) (by kernel_rfl) (fun st h => J4_5_ok  K st.tm st.g h) ?_
  refine seq_i (a := nd4 [1, 1, 1, 1, 1, 0, 0]) (b := nd4 [1, 1, 1, 1, 1, 0, 1]) (k' := kj4_6  K) (by kernel_rfl) (fun st h => J4_6_ok  K st.tm st.g h) ?_
  try unfold J4_4 at h
  unfold kj4_6
  generalize @J4_6 = Q4_6 at h ⊢
  unfold kj4_5
  generalize @J4_5 = Q4_5 at h ⊢
  refine code2_sound ok_mono _ _ _ ?_
  refine kmp ?_ h
  generalize Ok Try.prog = C
  unfold en4
  as_aux_lemma => kernel_rfl

noncomputable def J4_3 (x0 x3 x4 x5 x6 x7 : LV) (g : LHeap)  (K : LV → LHeap → Prop) : Prop :=
  Ok Try.prog 16 [] g fun t23 g =>
  vK (unL .not t23) fun t24 =>
  gd t24 false g (fun K => vK (loadV (some 3) x4 g) fun v => K v g) fun t26 g =>
  gd t24 false g (fun K => vK (loadV (some 3) x6 g) fun v => K v g) fun t27 g =>
  gd t24 false g (fun K => Ok Try.prog 17 [t26, t27] g K) fun t28 g =>
  gd t24 false g (fun K => vK (unL .not t28) fun v => K v g) fun t29 g =>
  vK (pickL t24 (.bool true) t29) fun t30 =>
  gd t30 false g (fun K => K x5 g) fun t32 g =>
  gd t30 false g (fun K => K x7 g) fun t33 g =>
  gd t30 false g (fun K => vK (binL Try.prog .neq 28 false t32 t33) fun v => K v g) fun t34 g =>
  vK (pickL t30 (.bool true) t34) fun t35 =>
  gd t35 false g (fun K => K x3 g) fun t37 g =>
  gd t35 false g (fun K => oK (convL Try.prog 23 9 t37 g) K) fun t38 g =>
  gd t35 false g (fun K => K x0 g) fun t39 g =>
  gd t35 false g (fun K => oK (convL Try.prog 23 9 t39 g) K) fun t40 g =>
  gd t35 false g (fun K => vK (binL Try.prog .neq 9 false t38 t40) fun v => K v g) fun t41 g =>
  vK (pickL t35 (.bool true) t41) fun t42 =>
  ifB t42 (
  K (.bool false) g) (
  J4_4 x0 x3 x4 x7 g  K)
abbrev kj4_3  (K : LV → LHeap → Prop) : LSt → Prop := fun st => J4_3 (st.tm 0) (st.tm 3) (st.tm 4) (st.tm 5) (st.tm 6) (st.tm 7) st.g  K
theorem J4_3_ok  (K : LV → LHeap → Prop) (tm : Nat → LV) (g : LHeap) (h : J4_3 (tm 0) (tm 3) (tm 4) (tm 5) (tm 6) (tm 7) g  K) : codeL Try.prog (Ok Try.prog) (nd4 [1, 1, 1, 1]) ⟨tm, g⟩ (en4 K) := by
  refine seq_i (a := nd4 [1, 1, 1, 1, 0]) (b := nd4 [1, 1, 1, 1, 1]) (k' := kj4_4  K) (by kernel_rfl) (fun st h => J4_4_ok  K st.tm st.g h) ?_
  try unfold J4_3 at h
  unfold kj4_4
  generalize @J4_4 = Q4_4 at h ⊢
  refine code2_sound ok_mono _ _ _ ?_
  refine kmp ?_ h
  generalize Ok Try.prog = C
  unfold en4
  as_aux_lemma => kernel_rfl

noncomputable def J4_2 (x0 x3 x4 x5 : LV) (g : LHeap)  (K : LV → LHeap → Prop) : Prop :=
  Ok Try.prog 15 [x0] g fun t20 g =>
  vK (extractL t20 0) fun t21 =>
  vK (extractL t20 1) fun t22 =>
  oK (newL (.agg [(.int .i64 (0)), .nils, .nils]) g) fun t6 g =>
  gK (storeV 3 t6 t21 g) fun g =>
  J4_3 x0 x3 x4 x5 t6 t22 g  K
abbrev kj4_2  (K : LV → LHeap → Prop) : LSt → Prop := fun st => J4_2 (st.tm 0) (st.tm 3) (st.tm 4) (st.tm 5) st.g  K
theorem J4_2_ok  (K : LV → LHeap → Prop) (tm : Nat → LV) (g : LHeap) (h : J4_2 (tm 0) (tm 3) (tm 4) (tm 5) g  K) : codeL Try.prog (Ok Try.prog) (nd4 [1, 1, 1]) ⟨tm, g⟩ (en4 K) := by
  refine seq_i (a := nd4 [1, 1, 1, 0]) (b := nd4 [1, 1, 1, 1]) (k' := kj4_3  K) (by kernel_rfl) (fun st h => J4_3_ok  K st.tm st.g h) ?_
  try unfold J4_2 at h
  unfold kj4_3
  generalize @J4_3 = Q4_3 at h ⊢
  refine code2_sound ok_mono _ _ _ ?_
  refine kmp ?_ h
  generalize Ok Try.prog = C
  unfold en4
  as_aux_lemma => kernel_rfl

noncomputable def J4_1 (x0 x3 : LV) (g : LHeap)  (K : LV → LHeap → Prop) : Prop :=
  Ok Try.prog 14 [x3] g fun t15 g =>
  vK (extractL t15 0) fun t16 =>
  vK (extractL t15 1) fun t17 =>
  oK (newL (.agg [(.int .i64 (0)), .nils, .nils]) g) fun t4 g =>
  gK (storeV 3 t4 t16 g) fun g =>
  J4_2 x0 x3 t4 t17 g  K
abbrev kj4_1  (K : LV → LHeap → Prop) : LSt → Prop := fun st => J4_1 (st.tm 0) (st.tm 3) st.g  K
theorem J4_1_ok  (K : LV → LHeap → Prop) (tm : Nat → LV) (g : LHeap) (h : J4_1 (tm 0) (tm 3) g  K) : codeL Try.prog (Ok Try.prog) (nd4 [1, 1]) ⟨tm, g⟩ (en4 K) := by
  refine seq_i (a := nd4 [1, 1, 0]) (b := nd4 [1, 1, 1]) (k' := kj4_2  K) (by kernel_rfl) (fun st h => J4_2_ok  K st.tm st.g h) ?_
  try unfold J4_1 at h
  unfold kj4_2
  generalize @J4_2 = Q4_2 at h ⊢
  refine code2_sound ok_mono _ _ _ ?_
  refine kmp ?_ h
  generalize Ok Try.prog = C
  unfold en4
  as_aux_lemma => kernel_rfl

noncomputable def J4_0 (x0 : LV) (g : LHeap)  (K : LV → LHeap → Prop) : Prop :=
  oK (buildSliceL Try.prog 23 0 [] g) fun t10 g =>
  oK (builtinL Try.prog .append [23, 23] [t10, x0] g) fun t12 g =>
  J4_1 x0 t12 g  K
abbrev kj4_0  (K : LV → LHeap → Prop) : LSt → Prop := fun st => J4_0 (st.tm 0) st.g  K
theorem J4_0_ok  (K : LV → LHeap → Prop) (tm : Nat → LV) (g : LHeap) (h : J4_0 (tm 0) g  K) : codeL Try.prog (Ok Try.prog) (nd4 [1]) ⟨tm, g⟩ (en4 K) := by
  refine seq_i (a := nd4 [1, 0]) (b := nd4 [1, 1]) (k' := kj4_1  K) (by kernel_rfl) (fun st h => J4_1_ok  K st.tm st.g h) ?_
  try unfold J4_0 at h
  unfold kj4_1
  generalize @J4_1 = Q4_1 at h ⊢
  refine code2_sound ok_mono _ _ _ ?_
  refine kmp ?_ h
  generalize Ok Try.prog = C
  unfold en4
  as_aux_lemma => kernel_rfl

noncomputable def F4 (x0 : LV) (g : LHeap) (K : LV → LHeap → Prop) : Prop :=
  J4_0 x0 g  K
theorem ok4 {x0 : LV} {g : LHeap} {K : LV → LHeap → Prop} (h : g.Wf → (∀ v ∈ ([x0] : List LV), ∀ b ∈ v.objs, b < g.next) → F4 x0 g K) : Ok Try.prog 4 [x0] g K := by
  refine ok_fw Try.mixed Try.func4 (by kernel_rfl) (by kernel_rfl) (c := nd4 []) (by kernel_rfl) fun wf lt => ?_
  rw [← en4_eq]
  replace h := h wf lt
  generalize hs : startL _ = tm
  replace h : F4 (tm 0) g K := by rw [← hs]; exact h
  refine seq_i (a := nd4 [0]) (b := nd4 [1]) (k' := kj4_0  K) (by kernel_rfl) (fun st h => J4_0_ok  K st.tm st.g h) ?_
  try unfold F4 at h
  unfold kj4_0
  generalize @J4_0 = Q4_0 at h ⊢
  refine code2_sound ok_mono _ _ _ ?_
  refine kmp ?_ h
  generalize Ok Try.prog = C
  unfold en4
  as_aux_lemma => kernel_rfl

end Go.Proofs.Ytaofgdibpbpalaa
