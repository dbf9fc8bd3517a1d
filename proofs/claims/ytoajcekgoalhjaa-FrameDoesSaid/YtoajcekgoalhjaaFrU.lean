/-
  Functions of the program, as texts of named values.
-/
import Derived.Test.YtoajcekgoalhjaaBf0
set_option linter.all false
namespace Go.Proofs.Ytoajcekgoalhjaa
open Go.ChangeShapes Go.WideShapes Go.ChangeAt Go.RowKit Go.Lm
set_option maxRecDepth 1000000
set_option linter.unusedVariables false
/-! parapet/parapetlaw06.FrameDoes (105 slots) -/
noncomputable def en7 (K : LV → LHeap → Prop) : LEx → LSt → Prop := fun e st => match e with
  | .exit _ => False
  | _ => K (st.tm 10) st.g
theorem en7_eq (K : LV → LHeap → Prop) : en7 K = endL Try.prog Try.f7 K := by
  funext e st
  cases e <;> kernel_rfl
noncomputable def nd7 (p : List Nat) : Code := subC p (bodyC Try.prog 7)
noncomputable def J7_9 (x15 x16 : LV) (g : LHeap)  (K : LV → LHeap → Prop) : Prop :=
  Ok Try.prog 38 [x15, x16] g fun t104 g =>
  K t104 g
abbrev kj7_9  (K : LV → LHeap → Prop) : LSt → Prop := fun st => J7_9 (st.tm 15) (st.tm 16) st.g  K
theorem J7_9_ok  (K : LV → LHeap → Prop) (tm : Nat → LV) (g : LHeap) (h : J7_9 (tm 15) (tm 16) g  K) : codeL Try.prog (Ok Try.prog) (nd7 [1, 1, 1, 1, 1, 1, 1, 1, 1, 1]) ⟨tm, g⟩ (en7 K) := by
  try unfold J7_9 at h
  refine code2_sound ok_mono _ _ _ ?_
  refine kmp ?_ h
  generalize Ok Try.prog = C
  try unfold en7
  as_aux_lemma => kernel_rfl

noncomputable def L7_11 (x11 x15 x16 x89 x90 : LV) (x91 : LV) (g : LHeap) (N11 : LV → LHeap → Prop) (K : LV → LHeap → Prop) : Prop :=
  vK (binL Try.prog .lss 3 false x91 x90) fun t92 =>
  ifB t92 (
  vK (ixAddrL none 3 x89 x91) fun t93 =>
  vK (loadV (some 3) t93 g) fun t94 =>
  oK (newL (.agg [(.int .i64 (0)), (.int .i64 (0)), (.int .i64 (0))]) g) fun t19 g =>
  gK (storeV 3 t19 t94 g) fun g =>
  vK (loadV (some 3) t19 g) fun t98 =>
  Ok Try.prog 37 [x11, x15, x16, t98] g fun t99 g =>
  vK (unL .not t99) fun t100 =>
  ifB t100 (
  K (.bool false) g) (
  vK (binL Try.prog .add 3 true x91 (.int .i64 (1))) fun t101 =>
  N11 t101 g)) (
  J7_9 x15 x16 g  K)
theorem L7_11_ok (R11 : LV × LV × LV × LV × LV → LV → LHeap → Prop) (K : LV → LHeap → Prop) (tm : Nat → LV) (g : LHeap) (h : L7_11 (tm 11) (tm 15) (tm 16) (tm 89) (tm 90) (tm 91) g (fun s g => R11 ((tm 11), (tm 15), (tm 16), (tm 89), (tm 90)) s g) K) : codeL Try.prog (Ok Try.prog) (nd7 [1, 1, 1, 1, 1, 1, 1, 1, 1, 0, 1, 0, 0]) ⟨tm, g⟩ (roundK (fun tm : Nat → LV => (tm 11, tm 15, tm 16, tm 89, tm 90)) (fun tm : Nat → LV => tm 91) R11 (exitL 0 (thenL (kj7_9  K) (en7 K)))) := by
  try unfold L7_11 at h
  unfold kj7_9
  generalize @J7_9 = Q7_9 at h ⊢
  refine code2_sound ok_mono _ _ _ ?_
  refine kmp ?_ h
  generalize Ok Try.prog = C
  try unfold en7
  as_aux_lemma => kernel_rfl

noncomputable def J7_10 (x11 x15 x16 x89 x90 x91 : LV) (g : LHeap)  (K : LV → LHeap → Prop) : Prop :=
  loopP (fun s g N => L7_11 x11 x15 x16 x89 x90 s g N  K) x91 g
abbrev kj7_10  (K : LV → LHeap → Prop) : LSt → Prop := fun st => J7_10 (st.tm 11) (st.tm 15) (st.tm 16) (st.tm 89) (st.tm 90) (st.tm 91) st.g  K
theorem J7_10_ok  (K : LV → LHeap → Prop) (tm : Nat → LV) (g : LHeap) (h : J7_10 (tm 11) (tm 15) (tm 16) (tm 89) (tm 90) (tm 91) g  K) : codeL Try.prog (Ok Try.prog) (nd7 [1, 1, 1, 1, 1, 1, 1, 1, 1, 0, 1]) ⟨tm, g⟩ (thenL (kj7_9  K) (en7 K)) := by
  refine block_i (b := nd7 [1, 1, 1, 1, 1, 1, 1, 1, 1, 0, 1, 0]) (i := 0) (by kernel_rfl) ?_
  exact loop_glue (b := nd7 [1, 1, 1, 1, 1, 1, 1, 1, 1, 0, 1, 0, 0]) (by kernel_rfl) (fun tm : Nat → LV => (tm 11, tm 15, tm 16, tm 89, tm 90)) (fun tm : Nat → LV => tm 91) (fun a s g N => L7_11 a.1 a.2.1 a.2.2.1 a.2.2.2.1 a.2.2.2.2 s g N  K) (fun tm g R h => L7_11_ok R  K tm g h) tm g h

noncomputable def J7_8 (x4 x11 x15 x16 : LV) (g : LHeap)  (K : LV → LHeap → Prop) : Prop :=
  oK (builtinL Try.prog .len [43] [x4] g) fun t90 g =>
  J7_10 x11 x15 x16 x4 t90 (.int .i64 (0)) g  K
abbrev kj7_8  (K : LV → LHeap → Prop) : LSt → Prop := fun st => J7_8 (st.tm 4) (st.tm 11) (st.tm 15) (st.tm 16) st.g  K
theorem J7_8_ok  (K : LV → LHeap → Prop) (tm : Nat → LV) (g : LHeap) (h : J7_8 (tm 4) (tm 11) (tm 15) (tm 16) g  K) : codeL Try.prog (Ok Try.prog) (nd7 [1, 1, 1, 1, 1, 1, 1, 1, 1]) ⟨tm, g⟩ (en7 K) := by
  refine seq_i (a := nd7 [1, 1, 1, 1, 1, 1, 1, 1, 1, 0]) (b := nd7 [1, 1, 1, 1, 1, 1, 1, 1, 1, 1]) (k' := kj7_9  K) (by kernel_rfl) (fun st h => J7_9_ok  K st.tm st.g h) ?_
  refine seq_i (a := nd7 [1, 1, 1, 1, 1, 1, 1, 1, 1, 0, 0]) (b := nd7 [1, 1, 1, 1, 1, 1, 1, 1, 1, 0, 1]) (k' := kj7_10  K) (by kernel_rfl) (fun st h => J7_10_ok  K st.tm st.g h) ?_
  try unfold J7_8 at h
  unfold kj7_10
  generalize @J7_10 = Q7_10 at h ⊢
  unfold kj7_9
  generalize @J7_9 = Q7_9 at h ⊢
  refine code2_sound ok_mono _ _ _ ?_
  refine kmp ?_ h
  generalize Ok Try.prog = C
  try unfold en7
  as_aux_lemma => kernel_rfl

noncomputable def J7_7 (x4 x11 x15 x16 : LV) (g : LHeap)  (K : LV → LHeap → Prop) : Prop :=
  vK (binL Try.prog .eql 73 true x16 .nilp) fun t88 =>
  ifB t88 (
  K (.bool true) g) (
  J7_8 x4 x11 x15 x16 g  K)
abbrev kj7_7  (K : LV → LHeap → Prop) : LSt → Prop := fun st => J7_7 (st.tm 4) (st.tm 11) (st.tm 15) (st.tm 16) st.g  K
theorem J7_7_ok  (K : LV → LHeap → Prop) (tm : Nat → LV) (g : LHeap) (h : J7_7 (tm 4) (tm 11) (tm 15) (tm 16) g  K) : codeL Try.prog (Ok Try.prog) (nd7 [1, 1, 1, 1, 1, 1, 1, 1]) ⟨tm, g⟩ (en7 K) := by
  refine seq_i (a := nd7 [1, 1, 1, 1, 1, 1, 1, 1, 0]) (b := nd7 [1, 1, 1, 1, 1, 1, 1, 1, 1]) (k' := kj7_8  K) (by kernel_rfl) (fun st h => J7_8_ok  K st.tm st.g h) ?_
  try unfold J7_7 at h
  unfold kj7_8
  generalize @J7_8 = Q7_8 at h ⊢
  refine code2_sound ok_mono _ _ _ ?_
  refine kmp ?_ h
  generalize Ok Try.prog = C
  try unfold en7
  as_aux_lemma => kernel_rfl

noncomputable def J7_6 (x4 x11 x12 x15 x16 x17 : LV) (g : LHeap)  (K : LV → LHeap → Prop) : Prop :=
  vK (binL Try.prog .neq 24 false x12 x17) fun t79 =>
  gd t79 false g (fun K => K x15 g) fun t81 g =>
  gd t79 false g (fun K => vK (binL Try.prog .neq 47 true t81 .nilp) fun v => K v g) fun t82 g =>
  gd t79 false g (fun K => K x16 g) fun t83 g =>
  gd t79 false g (fun K => vK (binL Try.prog .neq 73 true t83 .nilp) fun v => K v g) fun t84 g =>
  gd t79 false g (fun K => vK (binL Try.prog .neq 4 false t82 t84) fun v => K v g) fun t85 g =>
  vK (pickL t79 (.bool true) t85) fun t86 =>
  ifB t86 (
  K (.bool false) g) (
  J7_7 x4 x11 x15 x16 g  K)
abbrev kj7_6  (K : LV → LHeap → Prop) : LSt → Prop := fun st => J7_6 (st.tm 4) (st.tm 11) (st.tm 12) (st.tm 15) (st.tm 16) (st.tm 17) st.g  K
theorem J7_6_ok  (K : LV → LHeap → Prop) (tm : Nat → LV) (g : LHeap) (h : J7_6 (tm 4) (tm 11) (tm 12) (tm 15) (tm 16) (tm 17) g  K) : codeL Try.prog (Ok Try.prog) (nd7 [1, 1, 1, 1, 1, 1, 1]) ⟨tm, g⟩ (en7 K) := by
  refine seq_i (a := nd7 [1, 1, 1, 1, 1, 1, 1, 0]) (b := nd7 [1, 1, 1, 1, 1, 1, 1, 1]) (k' := kj7_7  K) (by kernel_rfl) (fun st h => J7_7_ok  K st.tm st.g h) ?_
  try unfold J7_6 at h
  unfold kj7_7
  generalize @J7_7 = Q7_7 at h ⊢
  refine code2_sound ok_mono _ _ _ ?_
  refine kmp ?_ h
  generalize Ok Try.prog = C
  try unfold en7
  as_aux_lemma => kernel_rfl

noncomputable def J7_5 (x0 x1 x2 x3 x4 x11 x12 x15 : LV) (g : LHeap)  (K : LV → LHeap → Prop) : Prop :=
  Ok Try.prog 36 [x0, x1, x2, x3] g fun t74 g =>
  vK (extractL t74 0) fun t75 =>
  vK (extractL t74 1) fun t76 =>
  J7_6 x4 x11 x12 x15 t75 t76 g  K
abbrev kj7_5  (K : LV → LHeap → Prop) : LSt → Prop := fun st => J7_5 (st.tm 0) (st.tm 1) (st.tm 2) (st.tm 3) (st.tm 4) (st.tm 11) (st.tm 12) (st.tm 15) st.g  K
theorem J7_5_ok  (K : LV → LHeap → Prop) (tm : Nat → LV) (g : LHeap) (h : J7_5 (tm 0) (tm 1) (tm 2) (tm 3) (tm 4) (tm 11) (tm 12) (tm 15) g  K) : codeL Try.prog (Ok Try.prog) (nd7 [1, 1, 1, 1, 1, 1]) ⟨tm, g⟩ (en7 K) := by
  refine seq_i (a := nd7 [1, 1, 1, 1, 1, 1, 0]) (b := nd7 [1, 1, 1, 1, 1, 1, 1]) (k' := kj7_6  K) (by kernel_rfl) (fun st h => J7_6_ok  K st.tm st.g h) ?_
  try unfold J7_5 at h
  unfold kj7_6
  generalize @J7_6 = Q7_6 at h ⊢
  refine code2_sound ok_mono _ _ _ ?_
  refine kmp ?_ h
  generalize Ok Try.prog = C
  try unfold en7
  as_aux_lemma => kernel_rfl

noncomputable def J7_4 (x0 x1 x2 x3 x4 x11 : LV) (g : LHeap)  (K : LV → LHeap → Prop) : Prop :=
  Ok Try.prog 21 [x11, x1, x2, x3] g fun t66 g =>
  vK (extractL t66 0) fun t67 =>
  vK (extractL t66 1) fun t68 =>
  J7_5 x0 x1 x2 x3 x4 x11 t68 t67 g  K
abbrev kj7_4  (K : LV → LHeap → Prop) : LSt → Prop := fun st => J7_4 (st.tm 0) (st.tm 1) (st.tm 2) (st.tm 3) (st.tm 4) (st.tm 11) st.g  K
theorem J7_4_ok  (K : LV → LHeap → Prop) (tm : Nat → LV) (g : LHeap) (h : J7_4 (tm 0) (tm 1) (tm 2) (tm 3) (tm 4) (tm 11) g  K) : codeL Try.prog (Ok Try.prog) (nd7 [1, 1, 1, 1, 1]) ⟨tm, g⟩ (en7 K) := by
  refine seq_i (a := nd7 [1, 1, 1, 1, 1, 0]) (b := nd7 [1, 1, 1, 1, 1, 1]) (k' := kj7_5  K) (by kernel_rfl) (fun st h => J7_5_ok  K st.tm st.g h) ?_
  try unfold J7_4 at h
  unfold kj7_5
  generalize @J7_5 = Q7_5 at h ⊢
  refine code2_sound ok_mono _ _ _ ?_
  refine kmp ?_ h
  generalize Ok Try.prog = C
  try unfold en7
  as_aux_lemma => kernel_rfl

noncomputable def J7_3 (x0 x1 x2 x3 x4 x11 : LV) (g : LHeap)  (K : LV → LHeap → Prop) : Prop :=
  vK (binL Try.prog .geq 3 true x1 (.int .i64 (0))) fun t51 =>
  gd t51 true g (fun K => K x1 g) fun t53 g =>
  gd t51 true g (fun K => K x0 g) fun t54 g =>
  gd t51 true g (fun K => vK (binL Try.prog .lss 3 false t53 t54) fun v => K v g) fun t55 g =>
  vK (pickL t51 t55 (.bool false)) fun t56 =>
  ifB t56 (
  vK (binL Try.prog .mul 3 true (.int .i64 (256)) x1) fun t59 =>
  Ok Try.prog 24 [x11, t59, (.int .u32 (9))] g fun t60 g =>
  J7_4 x0 x1 x2 x3 x4 x11 g  K) (
  J7_4 x0 x1 x2 x3 x4 x11 g  K)
abbrev kj7_3  (K : LV → LHeap → Prop) : LSt → Prop := fun st => J7_3 (st.tm 0) (st.tm 1) (st.tm 2) (st.tm 3) (st.tm 4) (st.tm 11) st.g  K
theorem J7_3_ok  (K : LV → LHeap → Prop) (tm : Nat → LV) (g : LHeap) (h : J7_3 (tm 0) (tm 1) (tm 2) (tm 3) (tm 4) (tm 11) g  K) : codeL Try.prog (Ok Try.prog) (nd7 [1, 1, 1, 1]) ⟨tm, g⟩ (en7 K) := by
  refine seq_i (a := nd7 [1, 1, 1, 1, 0]) (b := nd7 [1, 1, 1, 1, 1]) (k' := kj7_4  K) (by kernel_rfl) (fun st h => J7_4_ok  K st.tm st.g h) ?_
  try unfold J7_3 at h
  unfold kj7_4
  generalize @J7_4 = Q7_4 at h ⊢
  refine code2_sound ok_mono _ _ _ ?_
  refine kmp ?_ h
  generalize Ok Try.prog = C
  try unfold en7
  as_aux_lemma => kernel_rfl

noncomputable def J7_2 (x0 x1 x2 x3 x4 x11 x12 : LV) (g : LHeap)  (K : LV → LHeap → Prop) : Prop :=
  vK (binL Try.prog .neq 24 true x12 (.int .i64 (0))) fun t28 =>
  gd t28 false g (fun K => K x11 g) fun t30 g =>
  gd t28 false g (fun K => vK (binL Try.prog .eql 44 true t30 .nilp) fun v => K v g) fun t31 g =>
  vK (pickL t28 (.bool true) t31) fun t32 =>
  ifB t32 (
  Ok Try.prog 21 [.nilp, x1, x2, x3] g fun t37 g =>
  vK (extractL t37 0) fun t38 =>
  vK (extractL t37 1) fun t39 =>
  vK (binL Try.prog .eql 44 true x11 .nilp) fun t41 =>
  gd t41 true g (fun K => K t38 g) fun t43 g =>
  gd t41 true g (fun K => vK (binL Try.prog .eql 47 true t43 .nilp) fun v => K v g) fun t44 g =>
  vK (pickL t41 t44 (.bool false)) fun t45 =>
  gd t45 true g (fun K => K t39 g) fun t47 g =>
  gd t45 true g (fun K => vK (binL Try.prog .eql 24 true t47 (.int .i64 (1))) fun v => K v g) fun t48 g =>
  vK (pickL t45 t48 (.bool false)) fun t49 =>
  K t49 g) (
  J7_3 x0 x1 x2 x3 x4 x11 g  K)
abbrev kj7_2  (K : LV → LHeap → Prop) : LSt → Prop := fun st => J7_2 (st.tm 0) (st.tm 1) (st.tm 2) (st.tm 3) (st.tm 4) (st.tm 11) (st.tm 12) st.g  K
theorem J7_2_ok  (K : LV → LHeap → Prop) (tm : Nat → LV) (g : LHeap) (h : J7_2 (tm 0) (tm 1) (tm 2) (tm 3) (tm 4) (tm 11) (tm 12) g  K) : codeL Try.prog (Ok Try.prog) (nd7 [1, 1, 1]) ⟨tm, g⟩ (en7 K) := by
  refine seq_i (a := nd7 [1, 1, 1, 0]) (b := nd7 [1, 1, 1, 1]) (k' := kj7_3  K) (by kernel_rfl) (fun st h => J7_3_ok  K st.tm st.g h) ?_
  try unfold J7_2 at h
  unfold kj7_3
  generalize @J7_3 = Q7_3 at h ⊢
  refine code2_sound ok_mono _ _ _ ?_
  refine kmp ?_ h
  generalize Ok Try.prog = C
  try unfold en7
  as_aux_lemma => kernel_rfl

noncomputable def J7_1 (x0 x1 x2 x3 x4 : LV) (g : LHeap)  (K : LV → LHeap → Prop) : Prop :=
  Ok Try.prog 20 [x0] g fun t24 g =>
  vK (extractL t24 0) fun t25 =>
  vK (extractL t24 1) fun t26 =>
  J7_2 x0 x1 x2 x3 x4 t25 t26 g  K
abbrev kj7_1  (K : LV → LHeap → Prop) : LSt → Prop := fun st => J7_1 (st.tm 0) (st.tm 1) (st.tm 2) (st.tm 3) (st.tm 4) st.g  K
theorem J7_1_ok  (K : LV → LHeap → Prop) (tm : Nat → LV) (g : LHeap) (h : J7_1 (tm 0) (tm 1) (tm 2) (tm 3) (tm 4) g  K) : codeL Try.prog (Ok Try.prog) (nd7 [1, 1]) ⟨tm, g⟩ (en7 K) := by
  refine seq_i (a := nd7 [1, 1, 0]) (b := nd7 [1, 1, 1]) (k' := kj7_2  K) (by kernel_rfl) (fun st h => J7_2_ok  K st.tm st.g h) ?_
  try unfold J7_1 at h
  unfold kj7_2
  generalize @J7_2 = Q7_2 at h ⊢
  refine code2_sound ok_mono _ _ _ ?_
  refine kmp ?_ h
  generalize Ok Try.prog = C
  try unfold en7
  as_aux_lemma => kernel_rfl

noncomputable def J7_0 (x0 x1 x2 x3 x4 : LV) (g : LHeap)  (K : LV → LHeap → Prop) : Prop :=
  Ok Try.prog 19 [] g fun t20 g =>
  vK (unL .not t20) fun t21 =>
  ifB t21 (
  K (.bool false) g) (
  J7_1 x0 x1 x2 x3 x4 g  K)
abbrev kj7_0  (K : LV → LHeap → Prop) : LSt → Prop := fun st => J7_0 (st.tm 0) (st.tm 1) (st.tm 2) (st.tm 3) (st.tm 4) st.g  K
theorem J7_0_ok  (K : LV → LHeap → Prop) (tm : Nat → LV) (g : LHeap) (h : J7_0 (tm 0) (tm 1) (tm 2) (tm 3) (tm 4) g  K) : codeL Try.prog (Ok Try.prog) (nd7 [1]) ⟨tm, g⟩ (en7 K) := by
  refine seq_i (a := nd7 [1, 0]) (b := nd7 [1, 1]) (k' := kj7_1  K) (by kernel_rfl) (fun st h => J7_1_ok  K st.tm st.g h) ?_
  try unfold J7_0 at h
  unfold kj7_1
  generalize @J7_1 = Q7_1 at h ⊢
  refine code2_sound ok_mono _ _ _ ?_
  refine kmp ?_ h
  generalize Ok Try.prog = C
  try unfold en7
  as_aux_lemma => kernel_rfl

noncomputable def F7 (x0 x1 x2 x3 x4 : LV) (g : LHeap) (K : LV → LHeap → Prop) : Prop :=
  J7_0 x0 x1 x2 x3 x4 g  K
theorem ok7 {x0 x1 x2 x3 x4 : LV} {g : LHeap} {K : LV → LHeap → Prop} (h : g.Wf → (∀ v ∈ ([x0, x1, x2, x3, x4] : List LV), ∀ b ∈ v.objs, b < g.next) → F7 x0 x1 x2 x3 x4 g K) : Ok Try.prog 7 [x0, x1, x2, x3, x4] g K := by
  refine ok_fw Try.mixed Try.func7 (by kernel_rfl) (by kernel_rfl) (c := nd7 []) (by kernel_rfl) fun wf lt => ?_
  rw [← en7_eq]
  replace h := h wf lt
  generalize hs : startL _ = tm
  replace h : F7 (tm 0) (tm 1) (tm 2) (tm 3) (tm 4) g K := by rw [← hs]; exact h
  refine seq_i (a := nd7 [0]) (b := nd7 [1]) (k' := kj7_0  K) (by kernel_rfl) (fun st h => J7_0_ok  K st.tm st.g h) ?_
  try unfold F7 at h
  unfold kj7_0
  generalize @J7_0 = Q7_0 at h ⊢
  refine code2_sound ok_mono _ _ _ ?_
  refine kmp ?_ h
  generalize Ok Try.prog = C
  try unfold en7
  as_aux_lemma => kernel_rfl

/-! parapet/parapetlaw06.does (135 slots) -/
noncomputable def en37 (K : LV → LHeap → Prop) : LEx → LSt → Prop := fun e st => match e with
  | .exit _ => False
  | _ => K (st.tm 8) st.g
theorem en37_eq (K : LV → LHeap → Prop) : en37 K = endL Try.prog Try.f37 K := by
  funext e st
  cases e <;> kernel_rfl
noncomputable def nd37 (p : List Nat) : Code := subC p (bodyC Try.prog 37)
noncomputable def F37 (x0 x1 x2 x3 : LV) (g : LHeap) (K : LV → LHeap → Prop) : Prop :=
  oK (newL x3 g) fun t7 g =>
  vK (fieldAddrL 0 t7) fun t17 =>
  vK (loadV none t17 g) fun t18 =>
  vK (binL Try.prog .eql 3 true t18 (.int .i64 (0))) fun t20 =>
  ifB t20 (
  vK (fieldAddrL 1 t7) fun t23 =>
  vK (loadV none t23 g) fun t24 =>
  Ok Try.prog 22 [x1, t24] g fun t25 g =>
  vK (extractL t25 0) fun t26 =>
  vK (extractL t25 1) fun t27 =>
  vK (fieldAddrL 1 t7) fun t30 =>
  vK (loadV none t30 g) fun t31 =>
  Ok Try.prog 67 [x2, t31] g fun t32 g =>
  vK (extractL t32 0) fun t33 =>
  vK (extractL t32 1) fun t34 =>
  vK (binL Try.prog .eql 3 false t26 t33) fun t37 =>
  gd t37 true g (fun K => K t27 g) fun t39 g =>
  gd t37 true g (fun K => K t34 g) fun t40 g =>
  gd t37 true g (fun K => vK (binL Try.prog .eql 24 false t39 t40) fun v => K v g) fun t41 g =>
  vK (pickL t37 t41 (.bool false)) fun t42 =>
  gd t42 true g (fun K => K t34 g) fun t44 g =>
  gd t42 true g (fun K => vK (binL Try.prog .neq 24 true t44 (.int .i64 (0))) fun v => K v g) fun t45 g =>
  gd t42 true g (fun K => K t45 g) fun t46 g =>
  gd t46 false g (fun K => K x0 g) fun t47 g =>
  gd t46 false g (fun K => K t26 g) fun t48 g =>
  gd t46 false g (fun K => Ok Try.prog 23 [t47, t48] g K) fun t49 g =>
  gd t42 true g (fun K => vK (pickL t46 (.bool true) t49) fun v => K v g) fun t50 g =>
  vK (pickL t42 t50 (.bool false)) fun t51 =>
  K t51 g) (
  vK (binL Try.prog .eql 3 true t18 (.int .i64 (1))) fun t53 =>
  ifB t53 (
  vK (fieldAddrL 1 t7) fun t56 =>
  vK (loadV none t56 g) fun t57 =>
  vK (fieldAddrL 2 t7) fun t58 =>
  vK (loadV none t58 g) fun t59 =>
  Ok Try.prog 25 [x1, t57, t59] g fun t60 g =>
  vK (extractL t60 0) fun t61 =>
  vK (extractL t60 1) fun t62 =>
  vK (fieldAddrL 1 t7) fun t65 =>
  vK (loadV none t65 g) fun t66 =>
  vK (fieldAddrL 2 t7) fun t67 =>
  vK (loadV none t67 g) fun t68 =>
  Ok Try.prog 68 [x2, t66, t68] g fun t69 g =>
  vK (extractL t69 0) fun t70 =>
  vK (extractL t69 1) fun t71 =>
  vK (binL Try.prog .eql 4 false t61 t70) fun t74 =>
  gd t74 true g (fun K => K t62 g) fun t76 g =>
  gd t74 true g (fun K => K t71 g) fun t77 g =>
  gd t74 true g (fun K => vK (binL Try.prog .eql 24 false t76 t77) fun v => K v g) fun t78 g =>
  vK (pickL t74 t78 (.bool false)) fun t79 =>
  gd t79 true g (fun K => K t70 g) fun t81 g =>
  gd t79 true g (fun K => vK (unL .not t81) fun v => K v g) fun t82 g =>
  gd t79 true g (fun K => K t82 g) fun t83 g =>
  gd t83 false g (fun K => K x0 g) fun t84 g =>
  gd t83 false g (fun K => vK (fieldAddrL 2 t7) fun v => K v g) fun t85 g =>
  gd t83 false g (fun K => vK (loadV none t85 g) fun v => K v g) fun t86 g =>
  gd t83 false g (fun K => Ok Try.prog 23 [t84, t86] g K) fun t87 g =>
  gd t79 true g (fun K => vK (pickL t83 (.bool true) t87) fun v => K v g) fun t88 g =>
  vK (pickL t79 t88 (.bool false)) fun t89 =>
  K t89 g) (
  vK (binL Try.prog .eql 3 true t18 (.int .i64 (2))) fun t91 =>
  ifB t91 (
  vK (fieldAddrL 2 t7) fun t93 =>
  vK (loadV none t93 g) fun t94 =>
  vK (fieldAddrL 2 t7) fun t97 =>
  vK (loadV none t97 g) fun t98 =>
  ((Ok Try.prog 29 [x1, t94] g fun t95 g =>
  ((loadV none t97 g) = some t98 ∧ 
  ((Ok Try.prog 69 [x2, t98] g fun t99 g =>
  
  vK (binL Try.prog .eql 24 false t95 t99) fun t100 =>
  gdV t100 true (some x1) fun t102 =>
  gdV t100 true (fieldAddrL 2 t7) fun t103 =>
  gdD t100 true (loadV none t103 g) (fun t104 =>
  gdV t100 true (some x2) fun t106 =>
  gdV t100 true (fieldAddrL 2 t7) fun t107 =>
  gdD t100 true (loadV none t107 g) (fun t108 =>
  ((gd t100 true g (fun K => Ok Try.prog 30 [t102, t104] g K) fun t105 g =>
  ((loadV none t107 g) = some t108 ∧ 
  ((gd t100 true g (fun K => Ok Try.prog 70 [t106, t108] g K) fun t109 g =>
  
  gdV t100 true (binL Try.prog .eql 3 false t105 t109) fun t110 =>
  vK (pickL t100 t110 (.bool false)) fun t111 =>
  K t111 g) ∧ True))) ∧ True)) (
  ((gd t100 true g (fun K => Ok Try.prog 30 [t102, t104] g K) fun t105 g =>
  
  ((gd t100 true g (fun K => Ok Try.prog 70 [t106, undefL] g K) fun t109 g =>
  
  gdV t100 true (binL Try.prog .eql 3 false t105 t109) fun t110 =>
  vK (pickL t100 t110 (.bool false)) fun t111 =>
  K t111 g) ∧ True)) ∧ True))) (
  gdV t100 true (some x2) fun t106 =>
  gdV t100 true (fieldAddrL 2 t7) fun t107 =>
  gdD t100 true (loadV none t107 g) (fun t108 =>
  ((gd t100 true g (fun K => Ok Try.prog 30 [t102, undefL] g K) fun t105 g =>
  ((loadV none t107 g) = some t108 ∧ 
  ((gd t100 true g (fun K => Ok Try.prog 70 [t106, t108] g K) fun t109 g =>
  
  gdV t100 true (binL Try.prog .eql 3 false t105 t109) fun t110 =>
  vK (pickL t100 t110 (.bool false)) fun t111 =>
  K t111 g) ∧ True))) ∧ True)) (
  ((gd t100 true g (fun K => Ok Try.prog 30 [t102, undefL] g K) fun t105 g =>
  
  ((gd t100 true g (fun K => Ok Try.prog 70 [t106, undefL] g K) fun t109 g =>
  
  gdV t100 true (binL Try.prog .eql 3 false t105 t109) fun t110 =>
  vK (pickL t100 t110 (.bool false)) fun t111 =>
  K t111 g) ∧ True)) ∧ True)))) ∧ True))) ∧ True)) (
  vK (binL Try.prog .eql 3 true t18 (.int .i64 (3))) fun t113 =>
  ifB t113 (
  vK (fieldAddrL 2 t7) fun t115 =>
  vK (loadV none t115 g) fun t116 =>
  Ok Try.prog 70 [x2, t116] g fun t117 g =>
  vK (binL Try.prog .gtr 3 true t117 (.int .i64 (0))) fun t118 =>
  ifB t118 (
  vK (fieldAddrL 2 t7) fun t120 =>
  vK (loadV none t120 g) fun t121 =>
  vK (binL Try.prog .mul 3 true (.int .i64 (256)) t121) fun t122 =>
  vK (fieldAddrL 1 t7) fun t123 =>
  vK (loadV none t123 g) fun t124 =>
  vK (binL Try.prog .and 3 true t124 (.int .i64 (63))) fun t125 =>
  vK (binL Try.prog .mul 3 true (.int .i64 (4)) t125) fun t126 =>
  vK (binL Try.prog .add 3 false t122 t126) fun t127 =>
  Ok Try.prog 24 [x0, t127, (.int .u32 (7))] g fun t128 g =>
  vK (binL Try.prog .eql 24 true t128 (.int .i64 (0))) fun t129 =>
  K t129 g) (
  K (.bool true) g)) (
  vK (binL Try.prog .eql 3 true t18 (.int .i64 (4))) fun t131 =>
  ifB t131 (
  Ok Try.prog 38 [x1, x2] g fun t134 g =>
  K t134 g) (
  K (.bool true) g)))))
theorem ok37 {x0 x1 x2 x3 : LV} {g : LHeap} {K : LV → LHeap → Prop} (h : g.Wf → (∀ v ∈ ([x0, x1, x2, x3] : List LV), ∀ b ∈ v.objs, b < g.next) → F37 x0 x1 x2 x3 g K) : Ok Try.prog 37 [x0, x1, x2, x3] g K := by
  refine ok_fw Try.mixed Try.func37 (by kernel_rfl) (by kernel_rfl) (c := nd37 []) (by kernel_rfl) fun wf lt => ?_
  rw [← en37_eq]
  replace h := h wf lt
  generalize hs : startL _ = tm
  replace h : F37 (tm 0) (tm 1) (tm 2) (tm 3) g K := by rw [← hs]; exact h
  try unfold F37 at h
  refine code3_sound ok_mono (pl := [(11, (.lt 0 false (.lt 1 false (.lt 2 false (.lt 4 false (.lt 5 false (.lt 6 true (.hv 3 (.hv 7 (.lt 8 false (.lt 9 false (.lt 10 false (.lt 11 false (.lt 12 true (.lt 14 false (.lt 15 false (.lt 16 true (.hv 13 (.hv 17 (.lt 18 false (.lt 19 false (.lt 20 false .nil))) .nil) .nil))))))))) .nil) .nil))))))))]) _ _ _ (by kernel_rfl) ?_
  refine kmp ?_ h
  generalize Ok Try.prog = C
  try unfold en37
  as_aux_lemma => kernel_rfl

/-! parapet/parapetlaw06.looks (108 slots) -/
noncomputable def en38 (K : LV → LHeap → Prop) : LEx → LSt → Prop := fun e st => match e with
  | .exit _ => False
  | _ => retC Try.prog [.cell 4 4] [(4, (st.tm 4))] st.g K
theorem en38_eq (K : LV → LHeap → Prop) : en38 K = endL Try.prog Try.f38 K := by
  funext e st
  cases e <;> kernel_rfl
noncomputable def nd38 (p : List Nat) : Code := subC p (bodyC Try.prog 38)
noncomputable def J38_4 (x0 x3 x4 x7 : LV) (g : LHeap)  (K : LV → LHeap → Prop) : Prop :=
  vK (loadV none x7 g) fun t56 =>
  vK (loadV none x3 g) fun t57 =>
  ((Ok Try.prog 71 [t57] g fun t58 g =>
  ((loadV none x7 g) = some t56 ∧ 
  vK (binL Try.prog .eql 3 false t56 t58) fun t59 =>
  gdV t59 true (some x0) fun t61 =>
  gdD t59 true (loadV none x7 g) (fun t63 =>
  ((gd t59 true g (fun K => Ok Try.prog 26 [t61] g K) fun t62 g =>
  ((loadV none x7 g) = some t63 ∧ 
  gdV t59 true (binL Try.prog .eql 3 false t62 t63) fun t64 =>
  vK (pickL t59 t64 (.bool false)) fun t65 =>
  gdV t65 true (some x0) fun t67 =>
  gdD t65 true (loadV none x3 g) (fun t69 =>
  gdV t65 true (nilCheckL t69) fun t70 =>
  gdV t65 true (fieldAddrL 1 t70) fun t71 =>
  gdD t65 true (loadV none t71 g) (fun t72 =>
  gdV t65 true (lenL Try.prog 50 t72 g) fun t73 =>
  gdD t65 true (loadV none x7 g) (fun t74 =>
  gdV t65 true (binL Try.prog .sub 3 false t73 t74) fun t75 =>
  ((gd t65 true g (fun K => Ok Try.prog 27 [t67] g K) fun t68 g =>
  ((loadV none x7 g) = some t74 ∧ ((loadV none t71 g) = some t72 ∧ ((loadV none x3 g) = some t69 ∧ 
  gdV t65 true (binL Try.prog .eql 3 false t68 t75) fun t76 =>
  vK (pickL t65 t76 (.bool false)) fun t77 =>
  gdV t77 true (some x0) fun t79 =>
  gdD t77 true (loadV none x3 g) (fun t81 =>
  gdV t77 true (nilCheckL t81) fun t82 =>
  gdV t77 true (fieldAddrL 3 t82) fun t83 =>
  gdD t77 true (loadV none t83 g) (fun t84 =>
  ((gd t77 true g (fun K => Ok Try.prog 32 [t79] g K) fun t80 g =>
  ((loadV none t83 g) = some t84 ∧ ((loadV none x3 g) = some t81 ∧ 
  ((gd t77 true g (fun K => Ok Try.prog 51 [t80, t84] g K) fun t85 g =>
  
  vK (pickL t77 t85 (.bool false)) fun t86 =>
  gdV t86 true (some x0) fun t88 =>
  ((gd t86 true g (fun K => Ok Try.prog 28 [t88] g K) fun t89 g =>
  
  vK (pickL t86 t89 (.bool false)) fun t90 =>
  gdV t90 true (some x0) fun t92 =>
  ((gd t90 true g (fun K => Ok Try.prog 31 [t92, (.int .i64 (-1))] g K) fun t93 g =>
  
  gdV t90 true (lenL Try.prog 50 t93 g) fun t94 =>
  gdV t90 true (binL Try.prog .eql 3 true t94 (.int .i64 (0))) fun t95 =>
  vK (pickL t90 t95 (.bool false)) fun t96 =>
  gdV t96 true (some x0) fun t98 =>
  gdD t96 true (loadV none x3 g) (fun t99 =>
  gdV t96 true (nilCheckL t99) fun t100 =>
  gdV t96 true (fieldAddrL 2 t100) fun t101 =>
  gdD t96 true (loadV none t101 g) (fun t102 =>
  gdV t96 true (lenL Try.prog 103 t102 g) fun t103 =>
  ((gd t96 true g (fun K => Ok Try.prog 31 [t98, t103] g K) fun t104 g =>
  
  gdV t96 true (lenL Try.prog 50 t104 g) fun t105 =>
  gdV t96 true (binL Try.prog .eql 3 true t105 (.int .i64 (0))) fun t106 =>
  vK (pickL t96 t106 (.bool false)) fun t107 =>
  ((gK (storeV 1 x4 t107 g) fun g =>
  
  retC Try.prog [.cell 4 4] [(4, x4)] g K) ∧ True)) ∧ True)) (
  gdV t96 true (lenL Try.prog 103 undefL g) fun t103 =>
  ((gd t96 true g (fun K => Ok Try.prog 31 [t98, t103] g K) fun t104 g =>
  
  gdV t96 true (lenL Try.prog 50 t104 g) fun t105 =>
  gdV t96 true (binL Try.prog .eql 3 true t105 (.int .i64 (0))) fun t106 =>
  vK (pickL t96 t106 (.bool false)) fun t107 =>
  ((gK (storeV 1 x4 t107 g) fun g =>
  
  retC Try.prog [.cell 4 4] [(4, x4)] g K) ∧ True)) ∧ True))) (
  gdV t96 true (nilCheckL undefL) fun t100 =>
  gdV t96 true (fieldAddrL 2 t100) fun t101 =>
  gdD t96 true (loadV none t101 g) (fun t102 =>
  gdV t96 true (lenL Try.prog 103 t102 g) fun t103 =>
  ((gd t96 true g (fun K => Ok Try.prog 31 [t98, t103] g K) fun t104 g =>
  
  gdV t96 true (lenL Try.prog 50 t104 g) fun t105 =>
  gdV t96 true (binL Try.prog .eql 3 true t105 (.int .i64 (0))) fun t106 =>
  vK (pickL t96 t106 (.bool false)) fun t107 =>
  ((gK (storeV 1 x4 t107 g) fun g =>
  
  retC Try.prog [.cell 4 4] [(4, x4)] g K) ∧ True)) ∧ True)) (
  gdV t96 true (lenL Try.prog 103 undefL g) fun t103 =>
  ((gd t96 true g (fun K => Ok Try.prog 31 [t98, t103] g K) fun t104 g =>
  
  gdV t96 true (lenL Try.prog 50 t104 g) fun t105 =>
  gdV t96 true (binL Try.prog .eql 3 true t105 (.int .i64 (0))) fun t106 =>
  vK (pickL t96 t106 (.bool false)) fun t107 =>
  ((gK (storeV 1 x4 t107 g) fun g =>
  
  retC Try.prog [.cell 4 4] [(4, x4)] g K) ∧ True)) ∧ True)))) ∧ True)) ∧ True)) ∧ True)))) ∧ True)) (
  ((gd t77 true g (fun K => Ok Try.prog 32 [t79] g K) fun t80 g =>
  ((loadV none x3 g) = some t81 ∧ 
  ((gd t77 true g (fun K => Ok Try.prog 51 [t80, undefL] g K) fun t85 g =>
  
  vK (pickL t77 t85 (.bool false)) fun t86 =>
  gdV t86 true (some x0) fun t88 =>
  ((gd t86 true g (fun K => Ok Try.prog 28 [t88] g K) fun t89 g =>
  
  vK (pickL t86 t89 (.bool false)) fun t90 =>
  gdV t90 true (some x0) fun t92 =>
  ((gd t90 true g (fun K => Ok Try.prog 31 [t92, (.int .i64 (-1))] g K) fun t93 g =>
  
  gdV t90 true (lenL Try.prog 50 t93 g) fun t94 =>
  gdV t90 true (binL Try.prog .eql 3 true t94 (.int .i64 (0))) fun t95 =>
  vK (pickL t90 t95 (.bool false)) fun t96 =>
  gdV t96 true (some x0) fun t98 =>
  gdD t96 true (loadV none x3 g) (fun t99 =>
  gdV t96 true (nilCheckL t99) fun t100 =>
  gdV t96 true (fieldAddrL 2 t100) fun t101 =>
  gdD t96 true (loadV none t101 g) (fun t102 =>
  gdV t96 true (lenL Try.prog 103 t102 g) fun t103 =>
  ((gd t96 true g (fun K => Ok Try.prog 31 [t98, t103] g K) fun t104 g =>
  
  gdV t96 true (lenL Try.prog 50 t104 g) fun t105 =>
  gdV t96 true (binL Try.prog .eql 3 true t105 (.int .i64 (0))) fun t106 =>
  vK (pickL t96 t106 (.bool false)) fun t107 =>
  ((gK (storeV 1 x4 t107 g) fun g =>
  
  retC Try.prog [.cell 4 4] [(4, x4)] g K) ∧ True)) ∧ True)) (
  gdV t96 true (lenL Try.prog 103 undefL g) fun t103 =>
  ((gd t96 true g (fun K => Ok Try.prog 31 [t98, t103] g K) fun t104 g =>
  
  gdV t96 true (lenL Try.prog 50 t104 g) fun t105 =>
  gdV t96 true (binL Try.prog .eql 3 true t105 (.int .i64 (0))) fun t106 =>
  vK (pickL t96 t106 (.bool false)) fun t107 =>
  ((gK (storeV 1 x4 t107 g) fun g =>
  
  retC Try.prog [.cell 4 4] [(4, x4)] g K) ∧ True)) ∧ True))) (
  gdV t96 true (nilCheckL undefL) fun t100 =>
  gdV t96 true (fieldAddrL 2 t100) fun t101 =>
  gdD t96 true (loadV none t101 g) (fun t102 =>
  gdV t96 true (lenL Try.prog 103 t102 g) fun t103 =>
  ((gd t96 true g (fun K => Ok Try.prog 31 [t98, t103] g K) fun t104 g =>
  
  gdV t96 true (lenL Try.prog 50 t104 g) fun t105 =>
  gdV t96 true (binL Try.prog .eql 3 true t105 (.int .i64 (0))) fun t106 =>
  vK (pickL t96 t106 (.bool false)) fun t107 =>
  ((gK (storeV 1 x4 t107 g) fun g =>
  
  retC Try.prog [.cell 4 4] [(4, x4)] g K) ∧ True)) ∧ True)) (
  gdV t96 true (lenL Try.prog 103 undefL g) fun t103 =>
  ((gd t96 true g (fun K => Ok Try.prog 31 [t98, t103] g K) fun t104 g =>
  
  gdV t96 true (lenL Try.prog 50 t104 g) fun t105 =>
  gdV t96 true (binL Try.prog .eql 3 true t105 (.int .i64 (0))) fun t106 =>
  vK (pickL t96 t106 (.bool false)) fun t107 =>
  ((gK (storeV 1 x4 t107 g) fun g =>
  
  retC Try.prog [.cell 4 4] [(4, x4)] g K) ∧ True)) ∧ True)))) ∧ True)) ∧ True)) ∧ True))) ∧ True))) (
  gdV t77 true (nilCheckL undefL) fun t82 =>
  gdV t77 true (fieldAddrL 3 t82) fun t83 =>
  gdD t77 true (loadV none t83 g) (fun t84 =>
  ((gd t77 true g (fun K => Ok Try.prog 32 [t79] g K) fun t80 g =>
  ((loadV none t83 g) = some t84 ∧ 
  ((gd t77 true g (fun K => Ok Try.prog 51 [t80, t84] g K) fun t85 g =>
  
  vK (pickL t77 t85 (.bool false)) fun t86 =>
  gdV t86 true (some x0) fun t88 =>
  ((gd t86 true g (fun K => Ok Try.prog 28 [t88] g K) fun t89 g =>
  
  vK (pickL t86 t89 (.bool false)) fun t90 =>
  gdV t90 true (some x0) fun t92 =>
  ((gd t90 true g (fun K => Ok Try.prog 31 [t92, (.int .i64 (-1))] g K) fun t93 g =>
  
  gdV t90 true (lenL Try.prog 50 t93 g) fun t94 =>
  gdV t90 true (binL Try.prog .eql 3 true t94 (.int .i64 (0))) fun t95 =>
  vK (pickL t90 t95 (.bool false)) fun t96 =>
  gdV t96 true (some x0) fun t98 =>
  gdD t96 true (loadV none x3 g) (fun t99 =>
  gdV t96 true (nilCheckL t99) fun t100 =>
  gdV t96 true (fieldAddrL 2 t100) fun t101 =>
  gdD t96 true (loadV none t101 g) (fun t102 =>
  gdV t96 true (lenL Try.prog 103 t102 g) fun t103 =>
  ((gd t96 true g (fun K => Ok Try.prog 31 [t98, t103] g K) fun t104 g =>
  
  gdV t96 true (lenL Try.prog 50 t104 g) fun t105 =>
  gdV t96 true (binL Try.prog .eql 3 true t105 (.int .i64 (0))) fun t106 =>
  vK (pickL t96 t106 (.bool false)) fun t107 =>
  ((gK (storeV 1 x4 t107 g) fun g =>
  
  retC Try.prog [.cell 4 4] [(4, x4)] g K) ∧ True)) ∧ True)) (
  gdV t96 true (lenL Try.prog 103 undefL g) fun t103 =>
  ((gd t96 true g (fun K => Ok Try.prog 31 [t98, t103] g K) fun t104 g =>
  
  gdV t96 true (lenL Try.prog 50 t104 g) fun t105 =>
  gdV t96 true (binL Try.prog .eql 3 true t105 (.int .i64 (0))) fun t106 =>
  vK (pickL t96 t106 (.bool false)) fun t107 =>
  ((gK (storeV 1 x4 t107 g) fun g =>
  
  retC Try.prog [.cell 4 4] [(4, x4)] g K) ∧ True)) ∧ True))) (
  gdV t96 true (nilCheckL undefL) fun t100 =>
  gdV t96 true (fieldAddrL 2 t100) fun t101 =>
  gdD t96 true (loadV none t101 g) (fun t102 =>
  gdV t96 true (lenL Try.prog 103 t102 g) fun t103 =>
  ((gd t96 true g (fun K => Ok Try.prog 31 [t98, t103] g K) fun t104 g =>
  
  gdV t96 true (lenL Try.prog 50 t104 g) fun t105 =>
  gdV t96 true (binL Try.prog .eql 3 true t105 (.int .i64 (0))) fun t106 =>
  vK (pickL t96 t106 (.bool false)) fun t107 =>
  ((gK (storeV 1 x4 t107 g) fun g =>
  
  retC Try.prog [.cell 4 4] [(4, x4)] g K) ∧ True)) ∧ True)) (
  gdV t96 true (lenL Try.prog 103 undefL g) fun t103 =>
  ((gd t96 true g (fun K => Ok Try.prog 31 [t98, t103] g K) fun t104 g =>
  
  gdV t96 true (lenL Try.prog 50 t104 g) fun t105 =>
  gdV t96 true (binL Try.prog .eql 3 true t105 (.int .i64 (0))) fun t106 =>
  vK (pickL t96 t106 (.bool false)) fun t107 =>
  ((gK (storeV 1 x4 t107 g) fun g =>
  
  retC Try.prog [.cell 4 4] [(4, x4)] g K) ∧ True)) ∧ True)))) ∧ True)) ∧ True)) ∧ True))) ∧ True)) (
  ((gd t77 true g (fun K => Ok Try.prog 32 [t79] g K) fun t80 g =>
  
  ((gd t77 true g (fun K => Ok Try.prog 51 [t80, undefL] g K) fun t85 g =>
  
  vK (pickL t77 t85 (.bool false)) fun t86 =>
  gdV t86 true (some x0) fun t88 =>
  ((gd t86 true g (fun K => Ok Try.prog 28 [t88] g K) fun t89 g =>
  
  vK (pickL t86 t89 (.bool false)) fun t90 =>
  gdV t90 true (some x0) fun t92 =>
  ((gd t90 true g (fun K => Ok Try.prog 31 [t92, (.int .i64 (-1))] g K) fun t93 g =>
  
  gdV t90 true (lenL Try.prog 50 t93 g) fun t94 =>
  gdV t90 true (binL Try.prog .eql 3 true t94 (.int .i64 (0))) fun t95 =>
  vK (pickL t90 t95 (.bool false)) fun t96 =>
  gdV t96 true (some x0) fun t98 =>
  gdD t96 true (loadV none x3 g) (fun t99 =>
  gdV t96 true (nilCheckL t99) fun t100 =>
  gdV t96 true (fieldAddrL 2 t100) fun t101 =>
  gdD t96 true (loadV none t101 g) (fun t102 =>
  gdV t96 true (lenL Try.prog 103 t102 g) fun t103 =>
  ((gd t96 true g (fun K => Ok Try.prog 31 [t98, t103] g K) fun t104 g =>
  
  gdV t96 true (lenL Try.prog 50 t104 g) fun t105 =>
  gdV t96 true (binL Try.prog .eql 3 true t105 (.int .i64 (0))) fun t106 =>
  vK (pickL t96 t106 (.bool false)) fun t107 =>
  ((gK (storeV 1 x4 t107 g) fun g =>
  
  retC Try.prog [.cell 4 4] [(4, x4)] g K) ∧ True)) ∧ True)) (
  gdV t96 true (lenL Try.prog 103 undefL g) fun t103 =>
  ((gd t96 true g (fun K => Ok Try.prog 31 [t98, t103] g K) fun t104 g =>
  
  gdV t96 true (lenL Try.prog 50 t104 g) fun t105 =>
  gdV t96 true (binL Try.prog .eql 3 true t105 (.int .i64 (0))) fun t106 =>
  vK (pickL t96 t106 (.bool false)) fun t107 =>
  ((gK (storeV 1 x4 t107 g) fun g =>
  
  retC Try.prog [.cell 4 4] [(4, x4)] g K) ∧ True)) ∧ True))) (
  gdV t96 true (nilCheckL undefL) fun t100 =>
  gdV t96 true (fieldAddrL 2 t100) fun t101 =>
  gdD t96 true (loadV none t101 g) (fun t102 =>
  gdV t96 true (lenL Try.prog 103 t102 g) fun t103 =>
  ((gd t96 true g (fun K => Ok Try.prog 31 [t98, t103] g K) fun t104 g =>
  
  gdV t96 true (lenL Try.prog 50 t104 g) fun t105 =>
  gdV t96 true (binL Try.prog .eql 3 true t105 (.int .i64 (0))) fun t106 =>
  vK (pickL t96 t106 (.bool false)) fun t107 =>
  ((gK (storeV 1 x4 t107 g) fun g =>
  
  retC Try.prog [.cell 4 4] [(4, x4)] g K) ∧ True)) ∧ True)) (
  gdV t96 true (lenL Try.prog 103 undefL g) fun t103 =>
  ((gd t96 true g (fun K => Ok Try.prog 31 [t98, t103] g K) fun t104 g =>
  
  gdV t96 true (lenL Try.prog 50 t104 g) fun t105 =>
  gdV t96 true (binL Try.prog .eql 3 true t105 (.int .i64 (0))) fun t106 =>
  vK (pickL t96 t106 (.bool false)) fun t107 =>
  ((gK (storeV 1 x4 t107 g) fun g =>
  
  retC Try.prog [.cell 4 4] [(4, x4)] g K) ∧ True)) ∧ True)))) ∧ True)) ∧ True)) ∧ True)) ∧ True))))))) ∧ True)) (
  gdV t65 true (binL Try.prog .sub 3 false t73 undefL) fun t75 =>
  ((gd t65 true g (fun K => Ok Try.prog 27 [t67] g K) fun t68 g =>
  ((loadV none t71 g) = some t72 ∧ ((loadV none x3 g) = some t69 ∧ 
  gdV t65 true (binL Try.prog .eql 3 false t68 t75) fun t76 =>
  vK (pickL t65 t76 (.bool false)) fun t77 =>
  gdV t77 true (some x0) fun t79 =>
  gdD t77 true (loadV none x3 g) (fun t81 =>
  gdV t77 true (nilCheckL t81) fun t82 =>
  gdV t77 true (fieldAddrL 3 t82) fun t83 =>
  gdD t77 true (loadV none t83 g) (fun t84 =>
  ((gd t77 true g (fun K => Ok Try.prog 32 [t79] g K) fun t80 g =>
  ((loadV none t83 g) = some t84 ∧ ((loadV none x3 g) = some t81 ∧ 
  ((gd t77 true g (fun K => Ok Try.prog 51 [t80, t84] g K) fun t85 g =>
  
  vK (pickL t77 t85 (.bool false)) fun t86 =>
  gdV t86 true (some x0) fun t88 =>
  ((gd t86 true g (fun K => Ok Try.prog 28 [t88] g K) fun t89 g =>
  
  vK (pickL t86 t89 (.bool false)) fun t90 =>
  gdV t90 true (some x0) fun t92 =>
  ((gd t90 true g (fun K => Ok Try.prog 31 [t92, (.int .i64 (-1))] g K) fun t93 g =>
  
  gdV t90 true (lenL Try.prog 50 t93 g) fun t94 =>
  gdV t90 true (binL Try.prog .eql 3 true t94 (.int .i64 (0))) fun t95 =>
  vK (pickL t90 t95 (.bool false)) fun t96 =>
  gdV t96 true (some x0) fun t98 =>
  gdD t96 true (loadV none x3 g) (fun t99 =>
  gdV t96 true (nilCheckL t99) fun t100 =>
  gdV t96 true (fieldAddrL 2 t100) fun t101 =>
  gdD t96 true (loadV none t101 g) (fun t102 =>
  gdV t96 true (lenL Try.prog 103 t102 g) fun t103 =>
  ((gd t96 true g (fun K => Ok Try.prog 31 [t98, t103] g K) fun t104 g =>
  
  gdV t96 true (lenL Try.prog 50 t104 g) fun t105 =>
  gdV t96 true (binL Try.prog .eql 3 true t105 (.int .i64 (0))) fun t106 =>
  vK (pickL t96 t106 (.bool false)) fun t107 =>
  ((gK (storeV 1 x4 t107 g) fun g =>
  
  retC Try.prog [.cell 4 4] [(4, x4)] g K) ∧ True)) ∧ True)) (
  gdV t96 true (lenL Try.prog 103 undefL g) fun t103 =>
  ((gd t96 true g (fun K => Ok Try.prog 31 [t98, t103] g K) fun t104 g =>
  
  gdV t96 true (lenL Try.prog 50 t104 g) fun t105 =>
  gdV t96 true (binL Try.prog .eql 3 true t105 (.int .i64 (0))) fun t106 =>
  vK (pickL t96 t106 (.bool false)) fun t107 =>
  ((gK (storeV 1 x4 t107 g) fun g =>
  
  retC Try.prog [.cell 4 4] [(4, x4)] g K) ∧ True)) ∧ True))) (
  gdV t96 true (nilCheckL undefL) fun t100 =>
  gdV t96 true (fieldAddrL 2 t100) fun t101 =>
  gdD t96 true (loadV none t101 g) (fun t102 =>
  gdV t96 true (lenL Try.prog 103 t102 g) fun t103 =>
  ((gd t96 true g (fun K => Ok Try.prog 31 [t98, t103] g K) fun t104 g =>
  
  gdV t96 true (lenL Try.prog 50 t104 g) fun t105 =>
  gdV t96 true (binL Try.prog .eql 3 true t105 (.int .i64 (0))) fun t106 =>
  vK (pickL t96 t106 (.bool false)) fun t107 =>
  ((gK (storeV 1 x4 t107 g) fun g =>
  
  retC Try.prog [.cell 4 4] [(4, x4)] g K) ∧ True)) ∧ True)) (
  gdV t96 true (lenL Try.prog 103 undefL g) fun t103 =>
  ((gd t96 true g (fun K => Ok Try.prog 31 [t98, t103] g K) fun t104 g =>
  
  gdV t96 true (lenL Try.prog 50 t104 g) fun t105 =>
  gdV t96 true (binL Try.prog .eql 3 true t105 (.int .i64 (0))) fun t106 =>
  vK (pickL t96 t106 (.bool false)) fun t107 =>
  ((gK (storeV 1 x4 t107 g) fun g =>
  
  retC Try.prog [.cell 4 4] [(4, x4)] g K) ∧ True)) ∧ True)))) ∧ True)) ∧ True)) ∧ True)))) ∧ True)) (
  ((gd t77 true g (fun K => Ok Try.prog 32 [t79] g K) fun t80 g =>
  ((loadV none x3 g) = some t81 ∧ 
  ((gd t77 true g (fun K => Ok Try.prog 51 [t80, undefL] g K) fun t85 g =>
  
  vK (pickL t77 t85 (.bool false)) fun t86 =>
  gdV t86 true (some x0) fun t88 =>
  ((gd t86 true g (fun K => Ok Try.prog 28 [t88] g K) fun t89 g =>
  
  vK (pickL t86 t89 (.bool false)) fun t90 =>
  gdV t90 true (some x0) fun t92 =>
  ((gd t90 true g (fun K => Ok Try.prog 31 [t92, (.int .i64 (-1))] g K) fun t93 g =>
  
  gdV t90 true (lenL Try.prog 50 t93 g) fun t94 =>
  gdV t90 true (binL Try.prog .eql 3 true t94 (.int .i64 (0))) fun t95 =>
  vK (pickL t90 t95 (.bool false)) fun t96 =>
  gdV t96 true (some x0) fun t98 =>
  gdD t96 true (loadV none x3 g) (fun t99 =>
  gdV t96 true (nilCheckL t99) fun t100 =>
  gdV t96 true (fieldAddrL 2 t100) fun t101 =>
  gdD t96 true (loadV none t101 g) (fun t102 =>
  gdV t96 true (lenL Try.prog 103 t102 g) fun t103 =>
  ((gd t96 true g (fun K => Ok Try.prog 31 [t98, t103] g K) fun t104 g =>
  
  gdV t96 true (lenL Try.prog 50 t104 g) fun t105 =>
  gdV t96 true (binL Try.prog .eql 3 true t105 (.int .i64 (0))) fun t106 =>
  vK (pickL t96 t106 (.bool false)) fun t107 =>
  ((gK (storeV 1 x4 t107 g) fun g =>
  
  retC Try.prog [.cell 4 4] [(4, x4)] g K) ∧ True)) ∧ True)) (
  gdV t96 true (lenL Try.prog 103 undefL g) fun t103 =>
  ((gd t96 true g (fun K => Ok Try.prog 31 [t98, t103] g K) fun t104 g =>
  
  gdV t96 true (lenL Try.prog 50 t104 g) fun t105 =>
  gdV t96 true (binL Try.prog .eql 3 true t105 (.int .i64 (0))) fun t106 =>
  vK (pickL t96 t106 (.bool false)) fun t107 =>
  ((gK (storeV 1 x4 t107 g) fun g =>
  
  retC Try.prog [.cell 4 4] [(4, x4)] g K) ∧ True)) ∧ True))) (
  gdV t96 true (nilCheckL undefL) fun t100 =>
  gdV t96 true (fieldAddrL 2 t100) fun t101 =>
  gdD t96 true (loadV none t101 g) (fun t102 =>
  gdV t96 true (lenL Try.prog 103 t102 g) fun t103 =>
  ((gd t96 true g (fun K => Ok Try.prog 31 [t98, t103] g K) fun t104 g =>
  
  gdV t96 true (lenL Try.prog 50 t104 g) fun t105 =>
  gdV t96 true (binL Try.prog .eql 3 true t105 (.int .i64 (0))) fun t106 =>
  vK (pickL t96 t106 (.bool false)) fun t107 =>
  ((gK (storeV 1 x4 t107 g) fun g =>
  
  retC Try.prog [.cell 4 4] [(4, x4)] g K) ∧ True)) ∧ True)) (
  gdV t96 true (lenL Try.prog 103 undefL g) fun t103 =>
  ((gd t96 true g (fun K => Ok Try.prog 31 [t98, t103] g K) fun t104 g =>
  
  gdV t96 true (lenL Try.prog 50 t104 g) fun t105 =>
  gdV t96 true (binL Try.prog .eql 3 true t105 (.int .i64 (0))) fun t106 =>
  vK (pickL t96 t106 (.bool false)) fun t107 =>
  ((gK (storeV 1 x4 t107 g) fun g =>
  
  retC Try.prog [.cell 4 4] [(4, x4)] g K) ∧ True)) ∧ True)))) ∧ True)) ∧ True)) ∧ True))) ∧ True))) (
  gdV t77 true (nilCheckL undefL) fun t82 =>
  gdV t77 true (fieldAddrL 3 t82) fun t83 =>
  gdD t77 true (loadV none t83 g) (fun t84 =>
  ((gd t77 true g (fun K => Ok Try.prog 32 [t79] g K) fun t80 g =>
  ((loadV none t83 g) = some t84 ∧ 
  ((gd t77 true g (fun K => Ok Try.prog 51 [t80, t84] g K) fun t85 g =>
  
  vK (pickL t77 t85 (.bool false)) fun t86 =>
  gdV t86 true (some x0) fun t88 =>
  ((gd t86 true g (fun K => Ok Try.prog 28 [t88] g K) fun t89 g =>
  
  vK (pickL t86 t89 (.bool false)) fun t90 =>
  gdV t90 true (some x0) fun t92 =>
  ((gd t90 true g (fun K => Ok Try.prog 31 [t92, (.int .i64 (-1))] g K) fun t93 g =>
  
  gdV t90 true (lenL Try.prog 50 t93 g) fun t94 =>
  gdV t90 true (binL Try.prog .eql 3 true t94 (.int .i64 (0))) fun t95 =>
  vK (pickL t90 t95 (.bool false)) fun t96 =>
  gdV t96 true (some x0) fun t98 =>
  gdD t96 true (loadV none x3 g) (fun t99 =>
  gdV t96 true (nilCheckL t99) fun t100 =>
  gdV t96 true (fieldAddrL 2 t100) fun t101 =>
  gdD t96 true (loadV none t101 g) (fun t102 =>
  gdV t96 true (lenL Try.prog 103 t102 g) fun t103 =>
  ((gd t96 true g (fun K => Ok Try.prog 31 [t98, t103] g K) fun t104 g =>
  
  gdV t96 true (lenL Try.prog 50 t104 g) fun t105 =>
  gdV t96 true (binL Try.prog .eql 3 true t105 (.int .i64 (0))) fun t106 =>
  vK (pickL t96 t106 (.bool false)) fun t107 =>
  ((gK (storeV 1 x4 t107 g) fun g =>
  
  retC Try.prog [.cell 4 4] [(4, x4)] g K) ∧ True)) ∧ True)) (
  gdV t96 true (lenL Try.prog 103 undefL g) fun t103 =>
  ((gd t96 true g (fun K => Ok Try.prog 31 [t98, t103] g K) fun t104 g =>
  
  gdV t96 true (lenL Try.prog 50 t104 g) fun t105 =>
  gdV t96 true (binL Try.prog .eql 3 true t105 (.int .i64 (0))) fun t106 =>
  vK (pickL t96 t106 (.bool false)) fun t107 =>
  ((gK (storeV 1 x4 t107 g) fun g =>
  
  retC Try.prog [.cell 4 4] [(4, x4)] g K) ∧ True)) ∧ True))) (
  gdV t96 true (nilCheckL undefL) fun t100 =>
  gdV t96 true (fieldAddrL 2 t100) fun t101 =>
  gdD t96 true (loadV none t101 g) (fun t102 =>
  gdV t96 true (lenL Try.prog 103 t102 g) fun t103 =>
  ((gd t96 true g (fun K => Ok Try.prog 31 [t98, t103] g K) fun t104 g =>
  
  gdV t96 true (lenL Try.prog 50 t104 g) fun t105 =>
  gdV t96 true (binL Try.prog .eql 3 true t105 (.int .i64 (0))) fun t106 =>
  vK (pickL t96 t106 (.bool false)) fun t107 =>
  ((gK (storeV 1 x4 t107 g) fun g =>
  
  retC Try.prog [.cell 4 4] [(4, x4)] g K) ∧ True)) ∧ True)) (
  gdV t96 true (lenL Try.prog 103 undefL g) fun t103 =>
  ((gd t96 true g (fun K => Ok Try.prog 31 [t98, t103] g K) fun t104 g =>
  
  gdV t96 true (lenL Try.prog 50 t104 g) fun t105 =>
  gdV t96 true (binL Try.prog .eql 3 true t105 (.int .i64 (0))) fun t106 =>
  vK (pickL t96 t106 (.bool false)) fun t107 =>
  ((gK (storeV 1 x4 t107 g) fun g =>
  
  retC Try.prog [.cell 4 4] [(4, x4)] g K) ∧ True)) ∧ True)))) ∧ True)) ∧ True)) ∧ True))) ∧ True)) (
  ((gd t77 true g (fun K => Ok Try.prog 32 [t79] g K) fun t80 g =>
  
  ((gd t77 true g (fun K => Ok Try.prog 51 [t80, undefL] g K) fun t85 g =>
  
  vK (pickL t77 t85 (.bool false)) fun t86 =>
  gdV t86 true (some x0) fun t88 =>
  ((gd t86 true g (fun K => Ok Try.prog 28 [t88] g K) fun t89 g =>
  
  vK (pickL t86 t89 (.bool false)) fun t90 =>
  gdV t90 true (some x0) fun t92 =>
  ((gd t90 true g (fun K => Ok Try.prog 31 [t92, (.int .i64 (-1))] g K) fun t93 g =>
  
  gdV t90 true (lenL Try.prog 50 t93 g) fun t94 =>
  gdV t90 true (binL Try.prog .eql 3 true t94 (.int .i64 (0))) fun t95 =>
  vK (pickL t90 t95 (.bool false)) fun t96 =>
  gdV t96 true (some x0) fun t98 =>
  gdD t96 true (loadV none x3 g) (fun t99 =>
  gdV t96 true (nilCheckL t99) fun t100 =>
  gdV t96 true (fieldAddrL 2 t100) fun t101 =>
  gdD t96 true (loadV none t101 g) (fun t102 =>
  gdV t96 true (lenL Try.prog 103 t102 g) fun t103 =>
  ((gd t96 true g (fun K => Ok Try.prog 31 [t98, t103] g K) fun t104 g =>
  
  gdV t96 true (lenL Try.prog 50 t104 g) fun t105 =>
  gdV t96 true (binL Try.prog .eql 3 true t105 (.int .i64 (0))) fun t106 =>
  vK (pickL t96 t106 (.bool false)) fun t107 =>
  ((gK (storeV 1 x4 t107 g) fun g =>
  
  retC Try.prog [.cell 4 4] [(4, x4)] g K) ∧ True)) ∧ True)) (
  gdV t96 true (lenL Try.prog 103 undefL g) fun t103 =>
  ((gd t96 true g (fun K => Ok Try.prog 31 [t98, t103] g K) fun t104 g =>
  
  gdV t96 true (lenL Try.prog 50 t104 g) fun t105 =>
  gdV t96 true (binL Try.prog .eql 3 true t105 (.int .i64 (0))) fun t106 =>
  vK (pickL t96 t106 (.bool false)) fun t107 =>
  ((gK (storeV 1 x4 t107 g) fun g =>
  
  retC Try.prog [.cell 4 4] [(4, x4)] g K) ∧ True)) ∧ True))) (
  gdV t96 true (nilCheckL undefL) fun t100 =>
  gdV t96 true (fieldAddrL 2 t100) fun t101 =>
  gdD t96 true (loadV none t101 g) (fun t102 =>
  gdV t96 true (lenL Try.prog 103 t102 g) fun t103 =>
  ((gd t96 true g (fun K => Ok Try.prog 31 [t98, t103] g K) fun t104 g =>
  
  gdV t96 true (lenL Try.prog 50 t104 g) fun t105 =>
  gdV t96 true (binL Try.prog .eql 3 true t105 (.int .i64 (0))) fun t106 =>
  vK (pickL t96 t106 (.bool false)) fun t107 =>
  ((gK (storeV 1 x4 t107 g) fun g =>
  
  retC Try.prog [.cell 4 4] [(4, x4)] g K) ∧ True)) ∧ True)) (
  gdV t96 true (lenL Try.prog 103 undefL g) fun t103 =>
  ((gd t96 true g (fun K => Ok Try.prog 31 [t98, t103] g K) fun t104 g =>
  
  gdV t96 true (lenL Try.prog 50 t104 g) fun t105 =>
  gdV t96 true (binL Try.prog .eql 3 true t105 (.int .i64 (0))) fun t106 =>
  vK (pickL t96 t106 (.bool false)) fun t107 =>
  ((gK (storeV 1 x4 t107 g) fun g =>
  
  retC Try.prog [.cell 4 4] [(4, x4)] g K) ∧ True)) ∧ True)))) ∧ True)) ∧ True)) ∧ True)) ∧ True)))))) ∧ True))) (
  gdV t65 true (lenL Try.prog 50 undefL g) fun t73 =>
  gdD t65 true (loadV none x7 g) (fun t74 =>
  gdV t65 true (binL Try.prog .sub 3 false t73 t74) fun t75 =>
  ((gd t65 true g (fun K => Ok Try.prog 27 [t67] g K) fun t68 g =>
  ((loadV none x7 g) = some t74 ∧ ((loadV none x3 g) = some t69 ∧ 
  gdV t65 true (binL Try.prog .eql 3 false t68 t75) fun t76 =>
  vK (pickL t65 t76 (.bool false)) fun t77 =>
  gdV t77 true (some x0) fun t79 =>
  gdD t77 true (loadV none x3 g) (fun t81 =>
  gdV t77 true (nilCheckL t81) fun t82 =>
  gdV t77 true (fieldAddrL 3 t82) fun t83 =>
  gdD t77 true (loadV none t83 g) (fun t84 =>
  ((gd t77 true g (fun K => Ok Try.prog 32 [t79] g K) fun t80 g =>
  ((loadV none t83 g) = some t84 ∧ ((loadV none x3 g) = some t81 ∧ 
  ((gd t77 true g (fun K => Ok Try.prog 51 [t80, t84] g K) fun t85 g =>
  
  vK (pickL t77 t85 (.bool false)) fun t86 =>
  gdV t86 true (some x0) fun t88 =>
  ((gd t86 true g (fun K => Ok Try.prog 28 [t88] g K) fun t89 g =>
  
  vK (pickL t86 t89 (.bool false)) fun t90 =>
  gdV t90 true (some x0) fun t92 =>
  ((gd t90 true g (fun K => Ok Try.prog 31 [t92, (.int .i64 (-1))] g K) fun t93 g =>
  
  gdV t90 true (lenL Try.prog 50 t93 g) fun t94 =>
  gdV t90 true (binL Try.prog .eql 3 true t94 (.int .i64 (0))) fun t95 =>
  vK (pickL t90 t95 (.bool false)) fun t96 =>
  gdV t96 true (some x0) fun t98 =>
  gdD t96 true (loadV none x3 g) (fun t99 =>
  gdV t96 true (nilCheckL t99) fun t100 =>
  gdV t96 true (fieldAddrL 2 t100) fun t101 =>
  gdD t96 true (loadV none t101 g) (fun t102 =>
  gdV t96 true (lenL Try.prog 103 t102 g) fun t103 =>
  ((gd t96 true g (fun K => Ok Try.prog 31 [t98, t103] g K) fun t104 g =>
  
  gdV t96 true (lenL Try.prog 50 t104 g) fun t105 =>
  gdV t96 true (binL Try.prog .eql 3 true t105 (.int .i64 (0))) fun t106 =>
  vK (pickL t96 t106 (.bool false)) fun t107 =>
  ((gK (storeV 1 x4 t107 g) fun g =>
  
  retC Try.prog [.cell 4 4] [(4, x4)] g K) ∧ True)) ∧ True)) (
  gdV t96 true (lenL Try.prog 103 undefL g) fun t103 =>
  ((gd t96 true g (fun K => Ok Try.prog 31 [t98, t103] g K) fun t104 g =>
  
  gdV t96 true (lenL Try.prog 50 t104 g) fun t105 =>
  gdV t96 true (binL Try.prog .eql 3 true t105 (.int .i64 (0))) fun t106 =>
  vK (pickL t96 t106 (.bool false)) fun t107 =>
  ((gK (storeV 1 x4 t107 g) fun g =>
  
  retC Try.prog [.cell 4 4] [(4, x4)] g K) ∧ True)) ∧ True))) (
  gdV t96 true (nilCheckL undefL) fun t100 =>
  gdV t96 true (fieldAddrL 2 t100) fun t101 =>
  gdD t96 true (loadV none t101 g) (fun t102 =>
  gdV t96 true (lenL Try.prog 103 t102 g) fun t103 =>
  ((gd t96 true g (fun K => Ok Try.prog 31 [t98, t103] g K) fun t104 g =>
  
  gdV t96 true (lenL Try.prog 50 t104 g) fun t105 =>
  gdV t96 true (binL Try.prog .eql 3 true t105 (.int .i64 (0))) fun t106 =>
  vK (pickL t96 t106 (.bool false)) fun t107 =>
  ((gK (storeV 1 x4 t107 g) fun g =>
  
  retC Try.prog [.cell 4 4] [(4, x4)] g K) ∧ True)) ∧ True)) (
  gdV t96 true (lenL Try.prog 103 undefL g) fun t103 =>
  ((gd t96 true g (fun K => Ok Try.prog 31 [t98, t103] g K) fun t104 g =>
  
  gdV t96 true (lenL Try.prog 50 t104 g) fun t105 =>
  gdV t96 true (binL Try.prog .eql 3 true t105 (.int .i64 (0))) fun t106 =>
  vK (pickL t96 t106 (.bool false)) fun t107 =>
  ((gK (storeV 1 x4 t107 g) fun g =>
  
  retC Try.prog [.cell 4 4] [(4, x4)] g K) ∧ True)) ∧ True)))) ∧ True)) ∧ True)) ∧ True)))) ∧ True)) (
  ((gd t77 true g (fun K => Ok Try.prog 32 [t79] g K) fun t80 g =>
  ((loadV none x3 g) = some t81 ∧ 
  ((gd t77 true g (fun K => Ok Try.prog 51 [t80, undefL] g K) fun t85 g =>
  
  vK (pickL t77 t85 (.bool false)) fun t86 =>
  gdV t86 true (some x0) fun t88 =>
  ((gd t86 true g (fun K => Ok Try.prog 28 [t88] g K) fun t89 g =>
  
  vK (pickL t86 t89 (.bool false)) fun t90 =>
  gdV t90 true (some x0) fun t92 =>
  ((gd t90 true g (fun K => Ok Try.prog 31 [t92, (.int .i64 (-1))] g K) fun t93 g =>
  
  gdV t90 true (lenL Try.prog 50 t93 g) fun t94 =>
  gdV t90 true (binL Try.prog .eql 3 true t94 (.int .i64 (0))) fun t95 =>
  vK (pickL t90 t95 (.bool false)) fun t96 =>
  gdV t96 true (some x0) fun t98 =>
  gdD t96 true (loadV none x3 g) (fun t99 =>
  gdV t96 true (nilCheckL t99) fun t100 =>
  gdV t96 true (fieldAddrL 2 t100) fun t101 =>
  gdD t96 true (loadV none t101 g) (fun t102 =>
  gdV t96 true (lenL Try.prog 103 t102 g) fun t103 =>
  ((gd t96 true g (fun K => Ok Try.prog 31 [t98, t103] g K) fun t104 g =>
  
  gdV t96 true (lenL Try.prog 50 t104 g) fun t105 =>
  gdV t96 true (binL Try.prog .eql 3 true t105 (.int .i64 (0))) fun t106 =>
  vK (pickL t96 t106 (.bool false)) fun t107 =>
  ((gK (storeV 1 x4 t107 g) fun g =>
  
  retC Try.prog [.cell 4 4] [(4, x4)] g K) ∧ True)) ∧ True)) (
  gdV t96 true (lenL Try.prog 103 undefL g) fun t103 =>
  ((gd t96 true g (fun K => Ok Try.prog 31 [t98, t103] g K) fun t104 g =>
  
  gdV t96 true (lenL Try.prog 50 t104 g) fun t105 =>
  gdV t96 true (binL Try.prog .eql 3 true t105 (.int .i64 (0))) fun t106 =>
  vK (pickL t96 t106 (.bool false)) fun t107 =>
  ((gK (storeV 1 x4 t107 g) fun g =>
  
  retC Try.prog [.cell 4 4] [(4, x4)] g K) ∧ True)) ∧ True))) (
  gdV t96 true (nilCheckL undefL) fun t100 =>
  gdV t96 true (fieldAddrL 2 t100) fun t101 =>
  gdD t96 true (loadV none t101 g) (fun t102 =>
  gdV t96 true (lenL Try.prog 103 t102 g) fun t103 =>
  ((gd t96 true g (fun K => Ok Try.prog 31 [t98, t103] g K) fun t104 g =>
  
  gdV t96 true (lenL Try.prog 50 t104 g) fun t105 =>
  gdV t96 true (binL Try.prog .eql 3 true t105 (.int .i64 (0))) fun t106 =>
  vK (pickL t96 t106 (.bool false)) fun t107 =>
  ((gK (storeV 1 x4 t107 g) fun g =>
  
  retC Try.prog [.cell 4 4] [(4, x4)] g K) ∧ True)) ∧ True)) (
  gdV t96 true (lenL Try.prog 103 undefL g) fun t103 =>
  ((gd t96 true g (fun K => Ok Try.prog 31 [t98, t103] g K) fun t104 g =>
  
  gdV t96 true (lenL Try.prog 50 t104 g) fun t105 =>
  gdV t96 true (binL Try.prog .eql 3 true t105 (.int .i64 (0))) fun t106 =>
  vK (pickL t96 t106 (.bool false)) fun t107 =>
  ((gK (storeV 1 x4 t107 g) fun g =>
  
  retC Try.prog [.cell 4 4] [(4, x4)] g K) ∧ True)) ∧ True)))) ∧ True)) ∧ True)) ∧ True))) ∧ True))) (
  gdV t77 true (nilCheckL undefL) fun t82 =>
  gdV t77 true (fieldAddrL 3 t82) fun t83 =>
  gdD t77 true (loadV none t83 g) (fun t84 =>
  ((gd t77 true g (fun K => Ok Try.prog 32 [t79] g K) fun t80 g =>
  ((loadV none t83 g) = some t84 ∧ 
  ((gd t77 true g (fun K => Ok Try.prog 51 [t80, t84] g K) fun t85 g =>
  
  vK (pickL t77 t85 (.bool false)) fun t86 =>
  gdV t86 true (some x0) fun t88 =>
  ((gd t86 true g (fun K => Ok Try.prog 28 [t88] g K) fun t89 g =>
  
  vK (pickL t86 t89 (.bool false)) fun t90 =>
  gdV t90 true (some x0) fun t92 =>
  ((gd t90 true g (fun K => Ok Try.prog 31 [t92, (.int .i64 (-1))] g K) fun t93 g =>
  
  gdV t90 true (lenL Try.prog 50 t93 g) fun t94 =>
  gdV t90 true (binL Try.prog .eql 3 true t94 (.int .i64 (0))) fun t95 =>
  vK (pickL t90 t95 (.bool false)) fun t96 =>
  gdV t96 true (some x0) fun t98 =>
  gdD t96 true (loadV none x3 g) (fun t99 =>
  gdV t96 true (nilCheckL t99) fun t100 =>
  gdV t96 true (fieldAddrL 2 t100) fun t101 =>
  gdD t96 true (loadV none t101 g) (fun t102 =>
  gdV t96 true (lenL Try.prog 103 t102 g) fun t103 =>
  ((gd t96 true g (fun K => Ok Try.prog 31 [t98, t103] g K) fun t104 g =>
  
  gdV t96 true (lenL Try.prog 50 t104 g) fun t105 =>
  gdV t96 true (binL Try.prog .eql 3 true t105 (.int .i64 (0))) fun t106 =>
  vK (pickL t96 t106 (.bool false)) fun t107 =>
  ((gK (storeV 1 x4 t107 g) fun g =>
  
  retC Try.prog [.cell 4 4] [(4, x4)] g K) ∧ True)) ∧ True)) (
  gdV t96 true (lenL Try.prog 103 undefL g) fun t103 =>
  ((gd t96 true g (fun K => Ok Try.prog 31 [t98, t103] g K) fun t104 g =>
  
  gdV t96 true (lenL Try.prog 50 t104 g) fun t105 =>
  gdV t96 true (binL Try.prog .eql 3 true t105 (.int .i64 (0))) fun t106 =>
  vK (pickL t96 t106 (.bool false)) fun t107 =>
  ((gK (storeV 1 x4 t107 g) fun g =>
  
  retC Try.prog [.cell 4 4] [(4, x4)] g K) ∧ True)) ∧ True))) (
  gdV t96 true (nilCheckL undefL) fun t100 =>
  gdV t96 true (fieldAddrL 2 t100) fun t101 =>
  gdD t96 true (loadV none t101 g) (fun t102 =>
  gdV t96 true (lenL Try.prog 103 t102 g) fun t103 =>
  ((gd t96 true g (fun K => Ok Try.prog 31 [t98, t103] g K) fun t104 g =>
  
  gdV t96 true (lenL Try.prog 50 t104 g) fun t105 =>
  gdV t96 true (binL Try.prog .eql 3 true t105 (.int .i64 (0))) fun t106 =>
  vK (pickL t96 t106 (.bool false)) fun t107 =>
  ((gK (storeV 1 x4 t107 g) fun g =>
  
  retC Try.prog [.cell 4 4] [(4, x4)] g K) ∧ True)) ∧ True)) (
  gdV t96 true (lenL Try.prog 103 undefL g) fun t103 =>
  ((gd t96 true g (fun K => Ok Try.prog 31 [t98, t103] g K) fun t104 g =>
  
  gdV t96 true (lenL Try.prog 50 t104 g) fun t105 =>
  gdV t96 true (binL Try.prog .eql 3 true t105 (.int .i64 (0))) fun t106 =>
  vK (pickL t96 t106 (.bool false)) fun t107 =>
  ((gK (storeV 1 x4 t107 g) fun g =>
  
  retC Try.prog [.cell 4 4] [(4, x4)] g K) ∧ True)) ∧ True)))) ∧ True)) ∧ True)) ∧ True))) ∧ True)) (
  ((gd t77 true g (fun K => Ok Try.prog 32 [t79] g K) fun t80 g =>
  
  ((gd t77 true g (fun K => Ok Try.prog 51 [t80, undefL] g K) fun t85 g =>
  
  vK (pickL t77 t85 (.bool false)) fun t86 =>
  gdV t86 true (some x0) fun t88 =>
  ((gd t86 true g (fun K => Ok Try.prog 28 [t88] g K) fun t89 g =>
  
  vK (pickL t86 t89 (.bool false)) fun t90 =>
  gdV t90 true (some x0) fun t92 =>
  ((gd t90 true g (fun K => Ok Try.prog 31 [t92, (.int .i64 (-1))] g K) fun t93 g =>
  
  gdV t90 true (lenL Try.prog 50 t93 g) fun t94 =>
  gdV t90 true (binL Try.prog .eql 3 true t94 (.int .i64 (0))) fun t95 =>
  vK (pickL t90 t95 (.bool false)) fun t96 =>
  gdV t96 true (some x0) fun t98 =>
  gdD t96 true (loadV none x3 g) (fun t99 =>
  gdV t96 true (nilCheckL t99) fun t100 =>
  gdV t96 true (fieldAddrL 2 t100) fun t101 =>
  gdD t96 true (loadV none t101 g) (fun t102 =>
  gdV t96 true (lenL Try.prog 103 t102 g) fun t103 =>
  ((gd t96 true g (fun K => Ok Try.prog 31 [t98, t103] g K) fun t104 g =>
  
  gdV t96 true (lenL Try.prog 50 t104 g) fun t105 =>
  gdV t96 true (binL Try.prog .eql 3 true t105 (.int .i64 (0))) fun t106 =>
  vK (pickL t96 t106 (.bool false)) fun t107 =>
  ((gK (storeV 1 x4 t107 g) fun g =>
  
  retC Try.prog [.cell 4 4] [(4, x4)] g K) ∧ True)) ∧ True)) (
  gdV t96 true (lenL Try.prog 103 undefL g) fun t103 =>
  ((gd t96 true g (fun K => Ok Try.prog 31 [t98, t103] g K) fun t104 g =>
  
  gdV t96 true (lenL Try.prog 50 t104 g) fun t105 =>
  gdV t96 true (binL Try.prog .eql 3 true t105 (.int .i64 (0))) fun t106 =>
  vK (pickL t96 t106 (.bool false)) fun t107 =>
  ((gK (storeV 1 x4 t107 g) fun g =>
  
  retC Try.prog [.cell 4 4] [(4, x4)] g K) ∧ True)) ∧ True))) (
  gdV t96 true (nilCheckL undefL) fun t100 =>
  gdV t96 true (fieldAddrL 2 t100) fun t101 =>
  gdD t96 true (loadV none t101 g) (fun t102 =>
  gdV t96 true (lenL Try.prog 103 t102 g) fun t103 =>
  ((gd t96 true g (fun K => Ok Try.prog 31 [t98, t103] g K) fun t104 g =>
  
  gdV t96 true (lenL Try.prog 50 t104 g) fun t105 =>
  gdV t96 true (binL Try.prog .eql 3 true t105 (.int .i64 (0))) fun t106 =>
  vK (pickL t96 t106 (.bool false)) fun t107 =>
  ((gK (storeV 1 x4 t107 g) fun g =>
  
  retC Try.prog [.cell 4 4] [(4, x4)] g K) ∧ True)) ∧ True)) (
  gdV t96 true (lenL Try.prog 103 undefL g) fun t103 =>
  ((gd t96 true g (fun K => Ok Try.prog 31 [t98, t103] g K) fun t104 g =>
  
  gdV t96 true (lenL Try.prog 50 t104 g) fun t105 =>
  gdV t96 true (binL Try.prog .eql 3 true t105 (.int .i64 (0))) fun t106 =>
  vK (pickL t96 t106 (.bool false)) fun t107 =>
  ((gK (storeV 1 x4 t107 g) fun g =>
  
  retC Try.prog [.cell 4 4] [(4, x4)] g K) ∧ True)) ∧ True)))) ∧ True)) ∧ True)) ∧ True)) ∧ True)))))) ∧ True)) (
  gdV t65 true (binL Try.prog .sub 3 false t73 undefL) fun t75 =>
  ((gd t65 true g (fun K => Ok Try.prog 27 [t67] g K) fun t68 g =>
  ((loadV none x3 g) = some t69 ∧ 
  gdV t65 true (binL Try.prog .eql 3 false t68 t75) fun t76 =>
  vK (pickL t65 t76 (.bool false)) fun t77 =>
  gdV t77 true (some x0) fun t79 =>
  gdD t77 true (loadV none x3 g) (fun t81 =>
  gdV t77 true (nilCheckL t81) fun t82 =>
  gdV t77 true (fieldAddrL 3 t82) fun t83 =>
  gdD t77 true (loadV none t83 g) (fun t84 =>
  ((gd t77 true g (fun K => Ok Try.prog 32 [t79] g K) fun t80 g =>
  ((loadV none t83 g) = some t84 ∧ ((loadV none x3 g) = some t81 ∧ 
  ((gd t77 true g (fun K => Ok Try.prog 51 [t80, t84] g K) fun t85 g =>
  
  vK (pickL t77 t85 (.bool false)) fun t86 =>
  gdV t86 true (some x0) fun t88 =>
  ((gd t86 true g (fun K => Ok Try.prog 28 [t88] g K) fun t89 g =>
  
  vK (pickL t86 t89 (.bool false)) fun t90 =>
  gdV t90 true (some x0) fun t92 =>
  ((gd t90 true g (fun K => Ok Try.prog 31 [t92, (.int .i64 (-1))] g K) fun t93 g =>
  
  gdV t90 true (lenL Try.prog 50 t93 g) fun t94 =>
  gdV t90 true (binL Try.prog .eql 3 true t94 (.int .i64 (0))) fun t95 =>
  vK (pickL t90 t95 (.bool false)) fun t96 =>
  gdV t96 true (some x0) fun t98 =>
  gdD t96 true (loadV none x3 g) (fun t99 =>
  gdV t96 true (nilCheckL t99) fun t100 =>
  gdV t96 true (fieldAddrL 2 t100) fun t101 =>
  gdD t96 true (loadV none t101 g) (fun t102 =>
  gdV t96 true (lenL Try.prog 103 t102 g) fun t103 =>
  ((gd t96 true g (fun K => Ok Try.prog 31 [t98, t103] g K) fun t104 g =>
  
  gdV t96 true (lenL Try.prog 50 t104 g) fun t105 =>
  gdV t96 true (binL Try.prog .eql 3 true t105 (.int .i64 (0))) fun t106 =>
  vK (pickL t96 t106 (.bool false)) fun t107 =>
  ((gK (storeV 1 x4 t107 g) fun g =>
  
  retC Try.prog [.cell 4 4] [(4, x4)] g K) ∧ True)) ∧ True)) (
  gdV t96 true (lenL Try.prog 103 undefL g) fun t103 =>
  ((gd t96 true g (fun K => Ok Try.prog 31 [t98, t103] g K) fun t104 g =>
  
  gdV t96 true (lenL Try.prog 50 t104 g) fun t105 =>
  gdV t96 true (binL Try.prog .eql 3 true t105 (.int .i64 (0))) fun t106 =>
  vK (pickL t96 t106 (.bool false)) fun t107 =>
  ((gK (storeV 1 x4 t107 g) fun g =>
  
  retC Try.prog [.cell 4 4] [(4, x4)] g K) ∧ True)) ∧ True))) (
  gdV t96 true (nilCheckL undefL) fun t100 =>
  gdV t96 true (fieldAddrL 2 t100) fun t101 =>
  gdD t96 true (loadV none t101 g) (fun t102 =>
  gdV t96 true (lenL Try.prog 103 t102 g) fun t103 =>
  ((gd t96 true g (fun K => Ok Try.prog 31 [t98, t103] g K) fun t104 g =>
  
  gdV t96 true (lenL Try.prog 50 t104 g) fun t105 =>
  gdV t96 true (binL Try.prog .eql 3 true t105 (.int .i64 (0))) fun t106 =>
  vK (pickL t96 t106 (.bool false)) fun t107 =>
  ((gK (storeV 1 x4 t107 g) fun g =>
  
  retC Try.prog [.cell 4 4] [(4, x4)] g K) ∧ True)) ∧ True)) (
  gdV t96 true (lenL Try.prog 103 undefL g) fun t103 =>
  ((gd t96 true g (fun K => Ok Try.prog 31 [t98, t103] g K) fun t104 g =>
  
  gdV t96 true (lenL Try.prog 50 t104 g) fun t105 =>
  gdV t96 true (binL Try.prog .eql 3 true t105 (.int .i64 (0))) fun t106 =>
  vK (pickL t96 t106 (.bool false)) fun t107 =>
  ((gK (storeV 1 x4 t107 g) fun g =>
  
  retC Try.prog [.cell 4 4] [(4, x4)] g K) ∧ True)) ∧ True)))) ∧ True)) ∧ True)) ∧ True)))) ∧ True)) (
  ((gd t77 true g (fun K => Ok Try.prog 32 [t79] g K) fun t80 g =>
  ((loadV none x3 g) = some t81 ∧ 
  ((gd t77 true g (fun K => Ok Try.prog 51 [t80, undefL] g K) fun t85 g =>
  
  vK (pickL t77 t85 (.bool false)) fun t86 =>
  gdV t86 true (some x0) fun t88 =>
  ((gd t86 true g (fun K => Ok Try.prog 28 [t88] g K) fun t89 g =>
  
  vK (pickL t86 t89 (.bool false)) fun t90 =>
  gdV t90 true (some x0) fun t92 =>
  ((gd t90 true g (fun K => Ok Try.prog 31 [t92, (.int .i64 (-1))] g K) fun t93 g =>
  
  gdV t90 true (lenL Try.prog 50 t93 g) fun t94 =>
  gdV t90 true (binL Try.prog .eql 3 true t94 (.int .i64 (0))) fun t95 =>
  vK (pickL t90 t95 (.bool false)) fun t96 =>
  gdV t96 true (some x0) fun t98 =>
  gdD t96 true (loadV none x3 g) (fun t99 =>
  gdV t96 true (nilCheckL t99) fun t100 =>
  gdV t96 true (fieldAddrL 2 t100) fun t101 =>
  gdD t96 true (loadV none t101 g) (fun t102 =>
  gdV t96 true (lenL Try.prog 103 t102 g) fun t103 =>
  ((gd t96 true g (fun K => Ok Try.prog 31 [t98, t103] g K) fun t104 g =>
  
  gdV t96 true (lenL Try.prog 50 t104 g) fun t105 =>
  gdV t96 true (binL Try.prog .eql 3 true t105 (.int .i64 (0))) fun t106 =>
  vK (pickL t96 t106 (.bool false)) fun t107 =>
  ((gK (storeV 1 x4 t107 g) fun g =>
  
  retC Try.prog [.cell 4 4] [(4, x4)] g K) ∧ True)) ∧ True)) (
  gdV t96 true (lenL Try.prog 103 undefL g) fun t103 =>
  ((gd t96 true g (fun K => Ok Try.prog 31 [t98, t103] g K) fun t104 g =>
  
  gdV t96 true (lenL Try.prog 50 t104 g) fun t105 =>
  gdV t96 true (binL Try.prog .eql 3 true t105 (.int .i64 (0))) fun t106 =>
  vK (pickL t96 t106 (.bool false)) fun t107 =>
  ((gK (storeV 1 x4 t107 g) fun g =>
  
  retC Try.prog [.cell 4 4] [(4, x4)] g K) ∧ True)) ∧ True))) (
  gdV t96 true (nilCheckL undefL) fun t100 =>
  gdV t96 true (fieldAddrL 2 t100) fun t101 =>
  gdD t96 true (loadV none t101 g) (fun t102 =>
  gdV t96 true (lenL Try.prog 103 t102 g) fun t103 =>
  ((gd t96 true g (fun K => Ok Try.prog 31 [t98, t103] g K) fun t104 g =>
  
  gdV t96 true (lenL Try.prog 50 t104 g) fun t105 =>
  gdV t96 true (binL Try.prog .eql 3 true t105 (.int .i64 (0))) fun t106 =>
  vK (pickL t96 t106 (.bool false)) fun t107 =>
  ((gK (storeV 1 x4 t107 g) fun g =>
  
  retC Try.prog [.cell 4 4] [(4, x4)] g K) ∧ True)) ∧ True)) (
  gdV t96 true (lenL Try.prog 103 undefL g) fun t103 =>
  ((gd t96 true g (fun K => Ok Try.prog 31 [t98, t103] g K) fun t104 g =>
  
  gdV t96 true (lenL Try.prog 50 t104 g) fun t105 =>
  gdV t96 true (binL Try.prog .eql 3 true t105 (.int .i64 (0))) fun t106 =>
  vK (pickL t96 t106 (.bool false)) fun t107 =>
  ((gK (storeV 1 x4 t107 g) fun g =>
  
  retC Try.prog [.cell 4 4] [(4, x4)] g K) ∧ True)) ∧ True)))) ∧ True)) ∧ True)) ∧ True))) ∧ True))) (
  gdV t77 true (nilCheckL undefL) fun t82 =>
  gdV t77 true (fieldAddrL 3 t82) fun t83 =>
  gdD t77 true (loadV none t83 g) (fun t84 =>
  ((gd t77 true g (fun K => Ok Try.prog 32 [t79] g K) fun t80 g =>
  ((loadV none t83 g) = some t84 ∧ 
  ((gd t77 true g (fun K => Ok Try.prog 51 [t80, t84] g K) fun t85 g =>
  
  vK (pickL t77 t85 (.bool false)) fun t86 =>
  gdV t86 true (some x0) fun t88 =>
  ((gd t86 true g (fun K => Ok Try.prog 28 [t88] g K) fun t89 g =>
  
  vK (pickL t86 t89 (.bool false)) fun t90 =>
  gdV t90 true (some x0) fun t92 =>
  ((gd t90 true g (fun K => Ok Try.prog 31 [t92, (.int .i64 (-1))] g K) fun t93 g =>
  
  gdV t90 true (lenL Try.prog 50 t93 g) fun t94 =>
  gdV t90 true (binL Try.prog .eql 3 true t94 (.int .i64 (0))) fun t95 =>
  vK (pickL t90 t95 (.bool false)) fun t96 =>
  gdV t96 true (some x0) fun t98 =>
  gdD t96 true (loadV none x3 g) (fun t99 =>
  gdV t96 true (nilCheckL t99) fun t100 =>
  gdV t96 true (fieldAddrL 2 t100) fun t101 =>
  gdD t96 true (loadV none t101 g) (fun t102 =>
  gdV t96 true (lenL Try.prog 103 t102 g) fun t103 =>
  ((gd t96 true g (fun K => Ok Try.prog 31 [t98, t103] g K) fun t104 g =>
  
  gdV t96 true (lenL Try.prog 50 t104 g) fun t105 =>
  gdV t96 true (binL Try.prog .eql 3 true t105 (.int .i64 (0))) fun t106 =>
  vK (pickL t96 t106 (.bool false)) fun t107 =>
  ((gK (storeV 1 x4 t107 g) fun g =>
  
  retC Try.prog [.cell 4 4] [(4, x4)] g K) ∧ True)) ∧ True)) (
  gdV t96 true (lenL Try.prog 103 undefL g) fun t103 =>
  ((gd t96 true g (fun K => Ok Try.prog 31 [t98, t103] g K) fun t104 g =>
  
  gdV t96 true (lenL Try.prog 50 t104 g) fun t105 =>
  gdV t96 true (binL Try.prog .eql 3 true t105 (.int .i64 (0))) fun t106 =>
  vK (pickL t96 t106 (.bool false)) fun t107 =>
  ((gK (storeV 1 x4 t107 g) fun g =>
  
  retC Try.prog [.cell 4 4] [(4, x4)] g K) ∧ True)) ∧ True))) (
  gdV t96 true (nilCheckL undefL) fun t100 =>
  gdV t96 true (fieldAddrL 2 t100) fun t101 =>
  gdD t96 true (loadV none t101 g) (fun t102 =>
  gdV t96 true (lenL Try.prog 103 t102 g) fun t103 =>
  ((gd t96 true g (fun K => Ok Try.prog 31 [t98, t103] g K) fun t104 g =>
  
  gdV t96 true (lenL Try.prog 50 t104 g) fun t105 =>
  gdV t96 true (binL Try.prog .eql 3 true t105 (.int .i64 (0))) fun t106 =>
  vK (pickL t96 t106 (.bool false)) fun t107 =>
  ((gK (storeV 1 x4 t107 g) fun g =>
  
  retC Try.prog [.cell 4 4] [(4, x4)] g K) ∧ True)) ∧ True)) (
  gdV t96 true (lenL Try.prog 103 undefL g) fun t103 =>
  ((gd t96 true g (fun K => Ok Try.prog 31 [t98, t103] g K) fun t104 g =>
  
  gdV t96 true (lenL Try.prog 50 t104 g) fun t105 =>
  gdV t96 true (binL Try.prog .eql 3 true t105 (.int .i64 (0))) fun t106 =>
  vK (pickL t96 t106 (.bool false)) fun t107 =>
  ((gK (storeV 1 x4 t107 g) fun g =>
  
  retC Try.prog [.cell 4 4] [(4, x4)] g K) ∧ True)) ∧ True)))) ∧ True)) ∧ True)) ∧ True))) ∧ True)) (
  ((gd t77 true g (fun K => Ok Try.prog 32 [t79] g K) fun t80 g =>
  
  ((gd t77 true g (fun K => Ok Try.prog 51 [t80, undefL] g K) fun t85 g =>
  
  vK (pickL t77 t85 (.bool false)) fun t86 =>
  gdV t86 true (some x0) fun t88 =>
  ((gd t86 true g (fun K => Ok Try.prog 28 [t88] g K) fun t89 g =>
  
  vK (pickL t86 t89 (.bool false)) fun t90 =>
  gdV t90 true (some x0) fun t92 =>
  ((gd t90 true g (fun K => Ok Try.prog 31 [t92, (.int .i64 (-1))] g K) fun t93 g =>
  
  gdV t90 true (lenL Try.prog 50 t93 g) fun t94 =>
  gdV t90 true (binL Try.prog .eql 3 true t94 (.int .i64 (0))) fun t95 =>
  vK (pickL t90 t95 (.bool false)) fun t96 =>
  gdV t96 true (some x0) fun t98 =>
  gdD t96 true (loadV none x3 g) (fun t99 =>
  gdV t96 true (nilCheckL t99) fun t100 =>
  gdV t96 true (fieldAddrL 2 t100) fun t101 =>
  gdD t96 true (loadV none t101 g) (fun t102 =>
  gdV t96 true (lenL Try.prog 103 t102 g) fun t103 =>
  ((gd t96 true g (fun K => Ok Try.prog 31 [t98, t103] g K) fun t104 g =>
  
  gdV t96 true (lenL Try.prog 50 t104 g) fun t105 =>
  gdV t96 true (binL Try.prog .eql 3 true t105 (.int .i64 (0))) fun t106 =>
  vK (pickL t96 t106 (.bool false)) fun t107 =>
  ((gK (storeV 1 x4 t107 g) fun g =>
  
  retC Try.prog [.cell 4 4] [(4, x4)] g K) ∧ True)) ∧ True)) (
  gdV t96 true (lenL Try.prog 103 undefL g) fun t103 =>
  ((gd t96 true g (fun K => Ok Try.prog 31 [t98, t103] g K) fun t104 g =>
  
  gdV t96 true (lenL Try.prog 50 t104 g) fun t105 =>
  gdV t96 true (binL Try.prog .eql 3 true t105 (.int .i64 (0))) fun t106 =>
  vK (pickL t96 t106 (.bool false)) fun t107 =>
  ((gK (storeV 1 x4 t107 g) fun g =>
  
  retC Try.prog [.cell 4 4] [(4, x4)] g K) ∧ True)) ∧ True))) (
  gdV t96 true (nilCheckL undefL) fun t100 =>
  gdV t96 true (fieldAddrL 2 t100) fun t101 =>
  gdD t96 true (loadV none t101 g) (fun t102 =>
  gdV t96 true (lenL Try.prog 103 t102 g) fun t103 =>
  ((gd t96 true g (fun K => Ok Try.prog 31 [t98, t103] g K) fun t104 g =>
  
  gdV t96 true (lenL Try.prog 50 t104 g) fun t105 =>
  gdV t96 true (binL Try.prog .eql 3 true t105 (.int .i64 (0))) fun t106 =>
  vK (pickL t96 t106 (.bool false)) fun t107 =>
  ((gK (storeV 1 x4 t107 g) fun g =>
  
  retC Try.prog [.cell 4 4] [(4, x4)] g K) ∧ True)) ∧ True)) (
  gdV t96 true (lenL Try.prog 103 undefL g) fun t103 =>
  ((gd t96 true g (fun K => Ok Try.prog 31 [t98, t103] g K) fun t104 g =>
  
  gdV t96 true (lenL Try.prog 50 t104 g) fun t105 =>
  gdV t96 true (binL Try.prog .eql 3 true t105 (.int .i64 (0))) fun t106 =>
  vK (pickL t96 t106 (.bool false)) fun t107 =>
  ((gK (storeV 1 x4 t107 g) fun g =>
  
  retC Try.prog [.cell 4 4] [(4, x4)] g K) ∧ True)) ∧ True)))) ∧ True)) ∧ True)) ∧ True)) ∧ True))))) ∧ True)))) (
  gdV t65 true (nilCheckL undefL) fun t70 =>
  gdV t65 true (fieldAddrL 1 t70) fun t71 =>
  gdD t65 true (loadV none t71 g) (fun t72 =>
  gdV t65 true (lenL Try.prog 50 t72 g) fun t73 =>
  gdD t65 true (loadV none x7 g) (fun t74 =>
  gdV t65 true (binL Try.prog .sub 3 false t73 t74) fun t75 =>
  ((gd t65 true g (fun K => Ok Try.prog 27 [t67] g K) fun t68 g =>
  ((loadV none x7 g) = some t74 ∧ ((loadV none t71 g) = some t72 ∧ 
  gdV t65 true (binL Try.prog .eql 3 false t68 t75) fun t76 =>
  vK (pickL t65 t76 (.bool false)) fun t77 =>
  gdV t77 true (some x0) fun t79 =>
  gdD t77 true (loadV none x3 g) (fun t81 =>
  gdV t77 true (nilCheckL t81) fun t82 =>
  gdV t77 true (fieldAddrL 3 t82) fun t83 =>
  gdD t77 true (loadV none t83 g) (fun t84 =>
  ((gd t77 true g (fun K => Ok Try.prog 32 [t79] g K) fun t80 g =>
  ((loadV none t83 g) = some t84 ∧ ((loadV none x3 g) = some t81 ∧ 
  ((gd t77 true g (fun K => Ok Try.prog 51 [t80, t84] g K) fun t85 g =>
  
  vK (pickL t77 t85 (.bool false)) fun t86 =>
  gdV t86 true (some x0) fun t88 =>
  ((gd t86 true g (fun K => Ok Try.prog 28 [t88] g K) fun t89 g =>
  
  vK (pickL t86 t89 (.bool false)) fun t90 =>
  gdV t90 true (some x0) fun t92 =>
  ((gd t90 true g (fun K => Ok Try.prog 31 [t92, (.int .i64 (-1))] g K) fun t93 g =>
  
  gdV t90 true (lenL Try.prog 50 t93 g) fun t94 =>
  gdV t90 true (binL Try.prog .eql 3 true t94 (.int .i64 (0))) fun t95 =>
  vK (pickL t90 t95 (.bool false)) fun t96 =>
  gdV t96 true (some x0) fun t98 =>
  gdD t96 true (loadV none x3 g) (fun t99 =>
  gdV t96 true (nilCheckL t99) fun t100 =>
  gdV t96 true (fieldAddrL 2 t100) fun t101 =>
  gdD t96 true (loadV none t101 g) (fun t102 =>
  gdV t96 true (lenL Try.prog 103 t102 g) fun t103 =>
  ((gd t96 true g (fun K => Ok Try.prog 31 [t98, t103] g K) fun t104 g =>
  
  gdV t96 true (lenL Try.prog 50 t104 g) fun t105 =>
  gdV t96 true (binL Try.prog .eql 3 true t105 (.int .i64 (0))) fun t106 =>
  vK (pickL t96 t106 (.bool false)) fun t107 =>
  ((gK (storeV 1 x4 t107 g) fun g =>
  
  retC Try.prog [.cell 4 4] [(4, x4)] g K) ∧ True)) ∧ True)) (
  gdV t96 true (lenL Try.prog 103 undefL g) fun t103 =>
  ((gd t96 true g (fun K => Ok Try.prog 31 [t98, t103] g K) fun t104 g =>
  
  gdV t96 true (lenL Try.prog 50 t104 g) fun t105 =>
  gdV t96 true (binL Try.prog .eql 3 true t105 (.int .i64 (0))) fun t106 =>
  vK (pickL t96 t106 (.bool false)) fun t107 =>
  ((gK (storeV 1 x4 t107 g) fun g =>
  
  retC Try.prog [.cell 4 4] [(4, x4)] g K) ∧ True)) ∧ True))) (
  gdV t96 true (nilCheckL undefL) fun t100 =>
  gdV t96 true (fieldAddrL 2 t100) fun t101 =>
  gdD t96 true (loadV none t101 g) (fun t102 =>
  gdV t96 true (lenL Try.prog 103 t102 g) fun t103 =>
  ((gd t96 true g (fun K => Ok Try.prog 31 [t98, t103] g K) fun t104 g =>
  
  gdV t96 true (lenL Try.prog 50 t104 g) fun t105 =>
  gdV t96 true (binL Try.prog .eql 3 true t105 (.int .i64 (0))) fun t106 =>
  vK (pickL t96 t106 (.bool false)) fun t107 =>
  ((gK (storeV 1 x4 t107 g) fun g =>
  
  retC Try.prog [.cell 4 4] [(4, x4)] g K) ∧ True)) ∧ True)) (
  gdV t96 true (lenL Try.prog 103 undefL g) fun t103 =>
  ((gd t96 true g (fun K => Ok Try.prog 31 [t98, t103] g K) fun t104 g =>
  
  gdV t96 true (lenL Try.prog 50 t104 g) fun t105 =>
  gdV t96 true (binL Try.prog .eql 3 true t105 (.int .i64 (0))) fun t106 =>
  vK (pickL t96 t106 (.bool false)) fun t107 =>
  ((gK (storeV 1 x4 t107 g) fun g =>
  
  retC Try.prog [.cell 4 4] [(4, x4)] g K) ∧ True)) ∧ True)))) ∧ True)) ∧ True)) ∧ True)))) ∧ True)) (
  ((gd t77 true g (fun K => Ok Try.prog 32 [t79] g K) fun t80 g =>
  ((loadV none x3 g) = some t81 ∧ 
  ((gd t77 true g (fun K => Ok Try.prog 51 [t80, undefL] g K) fun t85 g =>
  
  vK (pickL t77 t85 (.bool false)) fun t86 =>
  gdV t86 true (some x0) fun t88 =>
  ((gd t86 true g (fun K => Ok Try.prog 28 [t88] g K) fun t89 g =>
  
  vK (pickL t86 t89 (.bool false)) fun t90 =>
  gdV t90 true (some x0) fun t92 =>
  ((gd t90 true g (fun K => Ok Try.prog 31 [t92, (.int .i64 (-1))] g K) fun t93 g =>
  
  gdV t90 true (lenL Try.prog 50 t93 g) fun t94 =>
  gdV t90 true (binL Try.prog .eql 3 true t94 (.int .i64 (0))) fun t95 =>
  vK (pickL t90 t95 (.bool false)) fun t96 =>
  gdV t96 true (some x0) fun t98 =>
  gdD t96 true (loadV none x3 g) (fun t99 =>
  gdV t96 true (nilCheckL t99) fun t100 =>
  gdV t96 true (fieldAddrL 2 t100) fun t101 =>
  gdD t96 true (loadV none t101 g) (fun t102 =>
  gdV t96 true (lenL Try.prog 103 t102 g) fun t103 =>
  ((gd t96 true g (fun K => Ok Try.prog 31 [t98, t103] g K) fun t104 g =>
  
  gdV t96 true (lenL Try.prog 50 t104 g) fun t105 =>
  gdV t96 true (binL Try.prog .eql 3 true t105 (.int .i64 (0))) fun t106 =>
  vK (pickL t96 t106 (.bool false)) fun t107 =>
  ((gK (storeV 1 x4 t107 g) fun g =>
  
  retC Try.prog [.cell 4 4] [(4, x4)] g K) ∧ True)) ∧ True)) (
  gdV t96 true (lenL Try.prog 103 undefL g) fun t103 =>
  ((gd t96 true g (fun K => Ok Try.prog 31 [t98, t103] g K) fun t104 g =>
  
  gdV t96 true (lenL Try.prog 50 t104 g) fun t105 =>
  gdV t96 true (binL Try.prog .eql 3 true t105 (.int .i64 (0))) fun t106 =>
  vK (pickL t96 t106 (.bool false)) fun t107 =>
  ((gK (storeV 1 x4 t107 g) fun g =>
  
  retC Try.prog [.cell 4 4] [(4, x4)] g K) ∧ True)) ∧ True))) (
  gdV t96 true (nilCheckL undefL) fun t100 =>
  gdV t96 true (fieldAddrL 2 t100) fun t101 =>
  gdD t96 true (loadV none t101 g) (fun t102 =>
  gdV t96 true (lenL Try.prog 103 t102 g) fun t103 =>
  ((gd t96 true g (fun K => Ok Try.prog 31 [t98, t103] g K) fun t104 g =>
  
  gdV t96 true (lenL Try.prog 50 t104 g) fun t105 =>
  gdV t96 true (binL Try.prog .eql 3 true t105 (.int .i64 (0))) fun t106 =>
  vK (pickL t96 t106 (.bool false)) fun t107 =>
  ((gK (storeV 1 x4 t107 g) fun g =>
  
  retC Try.prog [.cell 4 4] [(4, x4)] g K) ∧ True)) ∧ True)) (
  gdV t96 true (lenL Try.prog 103 undefL g) fun t103 =>
  ((gd t96 true g (fun K => Ok Try.prog 31 [t98, t103] g K) fun t104 g =>
  
  gdV t96 true (lenL Try.prog 50 t104 g) fun t105 =>
  gdV t96 true (binL Try.prog .eql 3 true t105 (.int .i64 (0))) fun t106 =>
  vK (pickL t96 t106 (.bool false)) fun t107 =>
  ((gK (storeV 1 x4 t107 g) fun g =>
  
  retC Try.prog [.cell 4 4] [(4, x4)] g K) ∧ True)) ∧ True)))) ∧ True)) ∧ True)) ∧ True))) ∧ True))) (
  gdV t77 true (nilCheckL undefL) fun t82 =>
  gdV t77 true (fieldAddrL 3 t82) fun t83 =>
  gdD t77 true (loadV none t83 g) (fun t84 =>
  ((gd t77 true g (fun K => Ok Try.prog 32 [t79] g K) fun t80 g =>
  ((loadV none t83 g) = some t84 ∧ 
  ((gd t77 true g (fun K => Ok Try.prog 51 [t80, t84] g K) fun t85 g =>
  
  vK (pickL t77 t85 (.bool false)) fun t86 =>
  gdV t86 true (some x0) fun t88 =>
  ((gd t86 true g (fun K => Ok Try.prog 28 [t88] g K) fun t89 g =>
  
  vK (pickL t86 t89 (.bool false)) fun t90 =>
  gdV t90 true (some x0) fun t92 =>
  ((gd t90 true g (fun K => Ok Try.prog 31 [t92, (.int .i64 (-1))] g K) fun t93 g =>
  
  gdV t90 true (lenL Try.prog 50 t93 g) fun t94 =>
  gdV t90 true (binL Try.prog .eql 3 true t94 (.int .i64 (0))) fun t95 =>
  vK (pickL t90 t95 (.bool false)) fun t96 =>
  gdV t96 true (some x0) fun t98 =>
  gdD t96 true (loadV none x3 g) (fun t99 =>
  gdV t96 true (nilCheckL t99) fun t100 =>
  gdV t96 true (fieldAddrL 2 t100) fun t101 =>
  gdD t96 true (loadV none t101 g) (fun t102 =>
  gdV t96 true (lenL Try.prog 103 t102 g) fun t103 =>
  ((gd t96 true g (fun K => Ok Try.prog 31 [t98, t103] g K) fun t104 g =>
  
  gdV t96 true (lenL Try.prog 50 t104 g) fun t105 =>
  gdV t96 true (binL Try.prog .eql 3 true t105 (.int .i64 (0))) fun t106 =>
  vK (pickL t96 t106 (.bool false)) fun t107 =>
  ((gK (storeV 1 x4 t107 g) fun g =>
  
  retC Try.prog [.cell 4 4] [(4, x4)] g K) ∧ True)) ∧ True)) (
  gdV t96 true (lenL Try.prog 103 undefL g) fun t103 =>
  ((gd t96 true g (fun K => Ok Try.prog 31 [t98, t103] g K) fun t104 g =>
  
  gdV t96 true (lenL Try.prog 50 t104 g) fun t105 =>
  gdV t96 true (binL Try.prog .eql 3 true t105 (.int .i64 (0))) fun t106 =>
  vK (pickL t96 t106 (.bool false)) fun t107 =>
  ((gK (storeV 1 x4 t107 g) fun g =>
  
  retC Try.prog [.cell 4 4] [(4, x4)] g K) ∧ True)) ∧ True))) (
  gdV t96 true (nilCheckL undefL) fun t100 =>
  gdV t96 true (fieldAddrL 2 t100) fun t101 =>
  gdD t96 true (loadV none t101 g) (fun t102 =>
  gdV t96 true (lenL Try.prog 103 t102 g) fun t103 =>
  ((gd t96 true g (fun K => Ok Try.prog 31 [t98, t103] g K) fun t104 g =>
  
  gdV t96 true (lenL Try.prog 50 t104 g) fun t105 =>
  gdV t96 true (binL Try.prog .eql 3 true t105 (.int .i64 (0))) fun t106 =>
  vK (pickL t96 t106 (.bool false)) fun t107 =>
  ((gK (storeV 1 x4 t107 g) fun g =>
  
  retC Try.prog [.cell 4 4] [(4, x4)] g K) ∧ True)) ∧ True)) (
  gdV t96 true (lenL Try.prog 103 undefL g) fun t103 =>
  ((gd t96 true g (fun K => Ok Try.prog 31 [t98, t103] g K) fun t104 g =>
  
  gdV t96 true (lenL Try.prog 50 t104 g) fun t105 =>
  gdV t96 true (binL Try.prog .eql 3 true t105 (.int .i64 (0))) fun t106 =>
  vK (pickL t96 t106 (.bool false)) fun t107 =>
  ((gK (storeV 1 x4 t107 g) fun g =>
  
  retC Try.prog [.cell 4 4] [(4, x4)] g K) ∧ True)) ∧ True)))) ∧ True)) ∧ True)) ∧ True))) ∧ True)) (
  ((gd t77 true g (fun K => Ok Try.prog 32 [t79] g K) fun t80 g =>
  
  ((gd t77 true g (fun K => Ok Try.prog 51 [t80, undefL] g K) fun t85 g =>
  
  vK (pickL t77 t85 (.bool false)) fun t86 =>
  gdV t86 true (some x0) fun t88 =>
  ((gd t86 true g (fun K => Ok Try.prog 28 [t88] g K) fun t89 g =>
  
  vK (pickL t86 t89 (.bool false)) fun t90 =>
  gdV t90 true (some x0) fun t92 =>
  ((gd t90 true g (fun K => Ok Try.prog 31 [t92, (.int .i64 (-1))] g K) fun t93 g =>
  
  gdV t90 true (lenL Try.prog 50 t93 g) fun t94 =>
  gdV t90 true (binL Try.prog .eql 3 true t94 (.int .i64 (0))) fun t95 =>
  vK (pickL t90 t95 (.bool false)) fun t96 =>
  gdV t96 true (some x0) fun t98 =>
  gdD t96 true (loadV none x3 g) (fun t99 =>
  gdV t96 true (nilCheckL t99) fun t100 =>
  gdV t96 true (fieldAddrL 2 t100) fun t101 =>
  gdD t96 true (loadV none t101 g) (fun t102 =>
  gdV t96 true (lenL Try.prog 103 t102 g) fun t103 =>
  ((gd t96 true g (fun K => Ok Try.prog 31 [t98, t103] g K) fun t104 g =>
  
  gdV t96 true (lenL Try.prog 50 t104 g) fun t105 =>
  gdV t96 true (binL Try.prog .eql 3 true t105 (.int .i64 (0))) fun t106 =>
  vK (pickL t96 t106 (.bool false)) fun t107 =>
  ((gK (storeV 1 x4 t107 g) fun g =>
  
  retC Try.prog [.cell 4 4] [(4, x4)] g K) ∧ True)) ∧ True)) (
  gdV t96 true (lenL Try.prog 103 undefL g) fun t103 =>
  ((gd t96 true g (fun K => Ok Try.prog 31 [t98, t103] g K) fun t104 g =>
  
  gdV t96 true (lenL Try.prog 50 t104 g) fun t105 =>
  gdV t96 true (binL Try.prog .eql 3 true t105 (.int .i64 (0))) fun t106 =>
  vK (pickL t96 t106 (.bool false)) fun t107 =>
  ((gK (storeV 1 x4 t107 g) fun g =>
  
  retC Try.prog [.cell 4 4] [(4, x4)] g K) ∧ True)) ∧ True))) (
  gdV t96 true (nilCheckL undefL) fun t100 =>
  gdV t96 true (fieldAddrL 2 t100) fun t101 =>
  gdD t96 true (loadV none t101 g) (fun t102 =>
  gdV t96 true (lenL Try.prog 103 t102 g) fun t103 =>
  ((gd t96 true g (fun K => Ok Try.prog 31 [t98, t103] g K) fun t104 g =>
  
  gdV t96 true (lenL Try.prog 50 t104 g) fun t105 =>
  gdV t96 true (binL Try.prog .eql 3 true t105 (.int .i64 (0))) fun t106 =>
  vK (pickL t96 t106 (.bool false)) fun t107 =>
  ((gK (storeV 1 x4 t107 g) fun g =>
  
  retC Try.prog [.cell 4 4] [(4, x4)] g K) ∧ True)) ∧ True)) (
  gdV t96 true (lenL Try.prog 103 undefL g) fun t103 =>
  ((gd t96 true g (fun K => Ok Try.prog 31 [t98, t103] g K) fun t104 g =>
  
  gdV t96 true (lenL Try.prog 50 t104 g) fun t105 =>
  gdV t96 true (binL Try.prog .eql 3 true t105 (.int .i64 (0))) fun t106 =>
  vK (pickL t96 t106 (.bool false)) fun t107 =>
  ((gK (storeV 1 x4 t107 g) fun g =>
  
  retC Try.prog [.cell 4 4] [(4, x4)] g K) ∧ True)) ∧ True)))) ∧ True)) ∧ True)) ∧ True)) ∧ True)))))) ∧ True)) (
  gdV t65 true (binL Try.prog .sub 3 false t73 undefL) fun t75 =>
  ((gd t65 true g (fun K => Ok Try.prog 27 [t67] g K) fun t68 g =>
  ((loadV none t71 g) = some t72 ∧ 
  gdV t65 true (binL Try.prog .eql 3 false t68 t75) fun t76 =>
  vK (pickL t65 t76 (.bool false)) fun t77 =>
  gdV t77 true (some x0) fun t79 =>
  gdD t77 true (loadV none x3 g) (fun t81 =>
  gdV t77 true (nilCheckL t81) fun t82 =>
  gdV t77 true (fieldAddrL 3 t82) fun t83 =>
  gdD t77 true (loadV none t83 g) (fun t84 =>
  ((gd t77 true g (fun K => Ok Try.prog 32 [t79] g K) fun t80 g =>
  ((loadV none t83 g) = some t84 ∧ ((loadV none x3 g) = some t81 ∧ 
  ((gd t77 true g (fun K => Ok Try.prog 51 [t80, t84] g K) fun t85 g =>
  
  vK (pickL t77 t85 (.bool false)) fun t86 =>
  gdV t86 true (some x0) fun t88 =>
  ((gd t86 true g (fun K => Ok Try.prog 28 [t88] g K) fun t89 g =>
  
  vK (pickL t86 t89 (.bool false)) fun t90 =>
  gdV t90 true (some x0) fun t92 =>
  ((gd t90 true g (fun K => Ok Try.prog 31 [t92, (.int .i64 (-1))] g K) fun t93 g =>
  
  gdV t90 true (lenL Try.prog 50 t93 g) fun t94 =>
  gdV t90 true (binL Try.prog .eql 3 true t94 (.int .i64 (0))) fun t95 =>
  vK (pickL t90 t95 (.bool false)) fun t96 =>
  gdV t96 true (some x0) fun t98 =>
  gdD t96 true (loadV none x3 g) (fun t99 =>
  gdV t96 true (nilCheckL t99) fun t100 =>
  gdV t96 true (fieldAddrL 2 t100) fun t101 =>
  gdD t96 true (loadV none t101 g) (fun t102 =>
  gdV t96 true (lenL Try.prog 103 t102 g) fun t103 =>
  ((gd t96 true g (fun K => Ok Try.prog 31 [t98, t103] g K) fun t104 g =>
  
  gdV t96 true (lenL Try.prog 50 t104 g) fun t105 =>
  gdV t96 true (binL Try.prog .eql 3 true t105 (.int .i64 (0))) fun t106 =>
  vK (pickL t96 t106 (.bool false)) fun t107 =>
  ((gK (storeV 1 x4 t107 g) fun g =>
  
  retC Try.prog [.cell 4 4] [(4, x4)] g K) ∧ True)) ∧ True)) (
  gdV t96 true (lenL Try.prog 103 undefL g) fun t103 =>
  ((gd t96 true g (fun K => Ok Try.prog 31 [t98, t103] g K) fun t104 g =>
  
  gdV t96 true (lenL Try.prog 50 t104 g) fun t105 =>
  gdV t96 true (binL Try.prog .eql 3 true t105 (.int .i64 (0))) fun t106 =>
  vK (pickL t96 t106 (.bool false)) fun t107 =>
  ((gK (storeV 1 x4 t107 g) fun g =>
  
  retC Try.prog [.cell 4 4] [(4, x4)] g K) ∧ True)) ∧ True))) (
  gdV t96 true (nilCheckL undefL) fun t100 =>
  gdV t96 true (fieldAddrL 2 t100) fun t101 =>
  gdD t96 true (loadV none t101 g) (fun t102 =>
  gdV t96 true (lenL Try.prog 103 t102 g) fun t103 =>
  ((gd t96 true g (fun K => Ok Try.prog 31 [t98, t103] g K) fun t104 g =>
  
  gdV t96 true (lenL Try.prog 50 t104 g) fun t105 =>
  gdV t96 true (binL Try.prog .eql 3 true t105 (.int .i64 (0))) fun t106 =>
  vK (pickL t96 t106 (.bool false)) fun t107 =>
  ((gK (storeV 1 x4 t107 g) fun g =>
  
  retC Try.prog [.cell 4 4] [(4, x4)] g K) ∧ True)) ∧ True)) (
  gdV t96 true (lenL Try.prog 103 undefL g) fun t103 =>
  ((gd t96 true g (fun K => Ok Try.prog 31 [t98, t103] g K) fun t104 g =>
  
  gdV t96 true (lenL Try.prog 50 t104 g) fun t105 =>
  gdV t96 true (binL Try.prog .eql 3 true t105 (.int .i64 (0))) fun t106 =>
  vK (pickL t96 t106 (.bool false)) fun t107 =>
  ((gK (storeV 1 x4 t107 g) fun g =>
  
  retC Try.prog [.cell 4 4] [(4, x4)] g K) ∧ True)) ∧ True)))) ∧ True)) ∧ True)) ∧ True)))) ∧ True)) (
  ((gd t77 true g (fun K => Ok Try.prog 32 [t79] g K) fun t80 g =>
  ((loadV none x3 g) = some t81 ∧ 
  ((gd t77 true g (fun K => Ok Try.prog 51 [t80, undefL] g K) fun t85 g =>
  
  vK (pickL t77 t85 (.bool false)) fun t86 =>
  gdV t86 true (some x0) fun t88 =>
  ((gd t86 true g (fun K => Ok Try.prog 28 [t88] g K) fun t89 g =>
  
  vK (pickL t86 t89 (.bool false)) fun t90 =>
  gdV t90 true (some x0) fun t92 =>
  ((gd t90 true g (fun K => Ok Try.prog 31 [t92, (.int .i64 (-1))] g K) fun t93 g =>
  
  gdV t90 true (lenL Try.prog 50 t93 g) fun t94 =>
  gdV t90 true (binL Try.prog .eql 3 true t94 (.int .i64 (0))) fun t95 =>
  vK (pickL t90 t95 (.bool false)) fun t96 =>
  gdV t96 true (some x0) fun t98 =>
  gdD t96 true (loadV none x3 g) (fun t99 =>
  gdV t96 true (nilCheckL t99) fun t100 =>
  gdV t96 true (fieldAddrL 2 t100) fun t101 =>
  gdD t96 true (loadV none t101 g) (fun t102 =>
  gdV t96 true (lenL Try.prog 103 t102 g) fun t103 =>
  ((gd t96 true g (fun K => Ok Try.prog 31 [t98, t103] g K) fun t104 g =>
  
  gdV t96 true (lenL Try.prog 50 t104 g) fun t105 =>
  gdV t96 true (binL Try.prog .eql 3 true t105 (.int .i64 (0))) fun t106 =>
  vK (pickL t96 t106 (.bool false)) fun t107 =>
  ((gK (storeV 1 x4 t107 g) fun g =>
  
  retC Try.prog [.cell 4 4] [(4, x4)] g K) ∧ True)) ∧ True)) (
  gdV t96 true (lenL Try.prog 103 undefL g) fun t103 =>
  ((gd t96 true g (fun K => Ok Try.prog 31 [t98, t103] g K) fun t104 g =>
  
  gdV t96 true (lenL Try.prog 50 t104 g) fun t105 =>
  gdV t96 true (binL Try.prog .eql 3 true t105 (.int .i64 (0))) fun t106 =>
  vK (pickL t96 t106 (.bool false)) fun t107 =>
  ((gK (storeV 1 x4 t107 g) fun g =>
  
  retC Try.prog [.cell 4 4] [(4, x4)] g K) ∧ True)) ∧ True))) (
  gdV t96 true (nilCheckL undefL) fun t100 =>
  gdV t96 true (fieldAddrL 2 t100) fun t101 =>
  gdD t96 true (loadV none t101 g) (fun t102 =>
  gdV t96 true (lenL Try.prog 103 t102 g) fun t103 =>
  ((gd t96 true g (fun K => Ok Try.prog 31 [t98, t103] g K) fun t104 g =>
  
  gdV t96 true (lenL Try.prog 50 t104 g) fun t105 =>
  gdV t96 true (binL Try.prog .eql 3 true t105 (.int .i64 (0))) fun t106 =>
  vK (pickL t96 t106 (.bool false)) fun t107 =>
  ((gK (storeV 1 x4 t107 g) fun g =>
  
  retC Try.prog [.cell 4 4] [(4, x4)] g K) ∧ True)) ∧ True)) (
  gdV t96 true (lenL Try.prog 103 undefL g) fun t103 =>
  ((gd t96 true g (fun K => Ok Try.prog 31 [t98, t103] g K) fun t104 g =>
  
  gdV t96 true (lenL Try.prog 50 t104 g) fun t105 =>
  gdV t96 true (binL Try.prog .eql 3 true t105 (.int .i64 (0))) fun t106 =>
  vK (pickL t96 t106 (.bool false)) fun t107 =>
  ((gK (storeV 1 x4 t107 g) fun g =>
  
  retC Try.prog [.cell 4 4] [(4, x4)] g K) ∧ True)) ∧ True)))) ∧ True)) ∧ True)) ∧ True))) ∧ True))) (
  gdV t77 true (nilCheckL undefL) fun t82 =>
  gdV t77 true (fieldAddrL 3 t82) fun t83 =>
  gdD t77 true (loadV none t83 g) (fun t84 =>
  ((gd t77 true g (fun K => Ok Try.prog 32 [t79] g K) fun t80 g =>
  ((loadV none t83 g) = some t84 ∧ 
  ((gd t77 true g (fun K => Ok Try.prog 51 [t80, t84] g K) fun t85 g =>
  
  vK (pickL t77 t85 (.bool false)) fun t86 =>
  gdV t86 true (some x0) fun t88 =>
  ((gd t86 true g (fun K => Ok Try.prog 28 [t88] g K) fun t89 g =>
  
  vK (pickL t86 t89 (.bool false)) fun t90 =>
  gdV t90 true (some x0) fun t92 =>
  ((gd t90 true g (fun K => Ok Try.prog 31 [t92, (.int .i64 (-1))] g K) fun t93 g =>
  
  gdV t90 true (lenL Try.prog 50 t93 g) fun t94 =>
  gdV t90 true (binL Try.prog .eql 3 true t94 (.int .i64 (0))) fun t95 =>
  vK (pickL t90 t95 (.bool false)) fun t96 =>
  gdV t96 true (some x0) fun t98 =>
  gdD t96 true (loadV none x3 g) (fun t99 =>
  gdV t96 true (nilCheckL t99) fun t100 =>
  gdV t96 true (fieldAddrL 2 t100) fun t101 =>
  gdD t96 true (loadV none t101 g) (fun t102 =>
  gdV t96 true (lenL Try.prog 103 t102 g) fun t103 =>
  ((gd t96 true g (fun K => Ok Try.prog 31 [t98, t103] g K) fun t104 g =>
  
  gdV t96 true (lenL Try.prog 50 t104 g) fun t105 =>
  gdV t96 true (binL Try.prog .eql 3 true t105 (.int .i64 (0))) fun t106 =>
  vK (pickL t96 t106 (.bool false)) fun t107 =>
  ((gK (storeV 1 x4 t107 g) fun g =>
  
  retC Try.prog [.cell 4 4] [(4, x4)] g K) ∧ True)) ∧ True)) (
  gdV t96 true (lenL Try.prog 103 undefL g) fun t103 =>
  ((gd t96 true g (fun K => Ok Try.prog 31 [t98, t103] g K) fun t104 g =>
  
  gdV t96 true (lenL Try.prog 50 t104 g) fun t105 =>
  gdV t96 true (binL Try.prog .eql 3 true t105 (.int .i64 (0))) fun t106 =>
  vK (pickL t96 t106 (.bool false)) fun t107 =>
  ((gK (storeV 1 x4 t107 g) fun g =>
  
  retC Try.prog [.cell 4 4] [(4, x4)] g K) ∧ True)) ∧ True))) (
  gdV t96 true (nilCheckL undefL) fun t100 =>
  gdV t96 true (fieldAddrL 2 t100) fun t101 =>
  gdD t96 true (loadV none t101 g) (fun t102 =>
  gdV t96 true (lenL Try.prog 103 t102 g) fun t103 =>
  ((gd t96 true g (fun K => Ok Try.prog 31 [t98, t103] g K) fun t104 g =>
  
  gdV t96 true (lenL Try.prog 50 t104 g) fun t105 =>
  gdV t96 true (binL Try.prog .eql 3 true t105 (.int .i64 (0))) fun t106 =>
  vK (pickL t96 t106 (.bool false)) fun t107 =>
  ((gK (storeV 1 x4 t107 g) fun g =>
  
  retC Try.prog [.cell 4 4] [(4, x4)] g K) ∧ True)) ∧ True)) (
  gdV t96 true (lenL Try.prog 103 undefL g) fun t103 =>
  ((gd t96 true g (fun K => Ok Try.prog 31 [t98, t103] g K) fun t104 g =>
  
  gdV t96 true (lenL Try.prog 50 t104 g) fun t105 =>
  gdV t96 true (binL Try.prog .eql 3 true t105 (.int .i64 (0))) fun t106 =>
  vK (pickL t96 t106 (.bool false)) fun t107 =>
  ((gK (storeV 1 x4 t107 g) fun g =>
  
  retC Try.prog [.cell 4 4] [(4, x4)] g K) ∧ True)) ∧ True)))) ∧ True)) ∧ True)) ∧ True))) ∧ True)) (
  ((gd t77 true g (fun K => Ok Try.prog 32 [t79] g K) fun t80 g =>
  
  ((gd t77 true g (fun K => Ok Try.prog 51 [t80, undefL] g K) fun t85 g =>
  
  vK (pickL t77 t85 (.bool false)) fun t86 =>
  gdV t86 true (some x0) fun t88 =>
  ((gd t86 true g (fun K => Ok Try.prog 28 [t88] g K) fun t89 g =>
  
  vK (pickL t86 t89 (.bool false)) fun t90 =>
  gdV t90 true (some x0) fun t92 =>
  ((gd t90 true g (fun K => Ok Try.prog 31 [t92, (.int .i64 (-1))] g K) fun t93 g =>
  
  gdV t90 true (lenL Try.prog 50 t93 g) fun t94 =>
  gdV t90 true (binL Try.prog .eql 3 true t94 (.int .i64 (0))) fun t95 =>
  vK (pickL t90 t95 (.bool false)) fun t96 =>
  gdV t96 true (some x0) fun t98 =>
  gdD t96 true (loadV none x3 g) (fun t99 =>
  gdV t96 true (nilCheckL t99) fun t100 =>
  gdV t96 true (fieldAddrL 2 t100) fun t101 =>
  gdD t96 true (loadV none t101 g) (fun t102 =>
  gdV t96 true (lenL Try.prog 103 t102 g) fun t103 =>
  ((gd t96 true g (fun K => Ok Try.prog 31 [t98, t103] g K) fun t104 g =>
  
  gdV t96 true (lenL Try.prog 50 t104 g) fun t105 =>
  gdV t96 true (binL Try.prog .eql 3 true t105 (.int .i64 (0))) fun t106 =>
  vK (pickL t96 t106 (.bool false)) fun t107 =>
  ((gK (storeV 1 x4 t107 g) fun g =>
  
  retC Try.prog [.cell 4 4] [(4, x4)] g K) ∧ True)) ∧ True)) (
  gdV t96 true (lenL Try.prog 103 undefL g) fun t103 =>
  ((gd t96 true g (fun K => Ok Try.prog 31 [t98, t103] g K) fun t104 g =>
  
  gdV t96 true (lenL Try.prog 50 t104 g) fun t105 =>
  gdV t96 true (binL Try.prog .eql 3 true t105 (.int .i64 (0))) fun t106 =>
  vK (pickL t96 t106 (.bool false)) fun t107 =>
  ((gK (storeV 1 x4 t107 g) fun g =>
  
  retC Try.prog [.cell 4 4] [(4, x4)] g K) ∧ True)) ∧ True))) (
  gdV t96 true (nilCheckL undefL) fun t100 =>
  gdV t96 true (fieldAddrL 2 t100) fun t101 =>
  gdD t96 true (loadV none t101 g) (fun t102 =>
  gdV t96 true (lenL Try.prog 103 t102 g) fun t103 =>
  ((gd t96 true g (fun K => Ok Try.prog 31 [t98, t103] g K) fun t104 g =>
  
  gdV t96 true (lenL Try.prog 50 t104 g) fun t105 =>
  gdV t96 true (binL Try.prog .eql 3 true t105 (.int .i64 (0))) fun t106 =>
  vK (pickL t96 t106 (.bool false)) fun t107 =>
  ((gK (storeV 1 x4 t107 g) fun g =>
  
  retC Try.prog [.cell 4 4] [(4, x4)] g K) ∧ True)) ∧ True)) (
  gdV t96 true (lenL Try.prog 103 undefL g) fun t103 =>
  ((gd t96 true g (fun K => Ok Try.prog 31 [t98, t103] g K) fun t104 g =>
  
  gdV t96 true (lenL Try.prog 50 t104 g) fun t105 =>
  gdV t96 true (binL Try.prog .eql 3 true t105 (.int .i64 (0))) fun t106 =>
  vK (pickL t96 t106 (.bool false)) fun t107 =>
  ((gK (storeV 1 x4 t107 g) fun g =>
  
  retC Try.prog [.cell 4 4] [(4, x4)] g K) ∧ True)) ∧ True)))) ∧ True)) ∧ True)) ∧ True)) ∧ True))))) ∧ True))) (
  gdV t65 true (lenL Try.prog 50 undefL g) fun t73 =>
  gdD t65 true (loadV none x7 g) (fun t74 =>
  gdV t65 true (binL Try.prog .sub 3 false t73 t74) fun t75 =>
  ((gd t65 true g (fun K => Ok Try.prog 27 [t67] g K) fun t68 g =>
  ((loadV none x7 g) = some t74 ∧ 
  gdV t65 true (binL Try.prog .eql 3 false t68 t75) fun t76 =>
  vK (pickL t65 t76 (.bool false)) fun t77 =>
  gdV t77 true (some x0) fun t79 =>
  gdD t77 true (loadV none x3 g) (fun t81 =>
  gdV t77 true (nilCheckL t81) fun t82 =>
  gdV t77 true (fieldAddrL 3 t82) fun t83 =>
  gdD t77 true (loadV none t83 g) (fun t84 =>
  ((gd t77 true g (fun K => Ok Try.prog 32 [t79] g K) fun t80 g =>
  ((loadV none t83 g) = some t84 ∧ ((loadV none x3 g) = some t81 ∧ 
  ((gd t77 true g (fun K => Ok Try.prog 51 [t80, t84] g K) fun t85 g =>
  
  vK (pickL t77 t85 (.bool false)) fun t86 =>
  gdV t86 true (some x0) fun t88 =>
  ((gd t86 true g (fun K => Ok Try.prog 28 [t88] g K) fun t89 g =>
  
  vK (pickL t86 t89 (.bool false)) fun t90 =>
  gdV t90 true (some x0) fun t92 =>
  ((gd t90 true g (fun K => Ok Try.prog 31 [t92, (.int .i64 (-1))] g K) fun t93 g =>
  
  gdV t90 true (lenL Try.prog 50 t93 g) fun t94 =>
  gdV t90 true (binL Try.prog .eql 3 true t94 (.int .i64 (0))) fun t95 =>
  vK (pickL t90 t95 (.bool false)) fun t96 =>
  gdV t96 true (some x0) fun t98 =>
  gdD t96 true (loadV none x3 g) (fun t99 =>
  gdV t96 true (nilCheckL t99) fun t100 =>
  gdV t96 true (fieldAddrL 2 t100) fun t101 =>
  gdD t96 true (loadV none t101 g) (fun t102 =>
  gdV t96 true (lenL Try.prog 103 t102 g) fun t103 =>
  ((gd t96 true g (fun K => Ok Try.prog 31 [t98, t103] g K) fun t104 g =>
  
  gdV t96 true (lenL Try.prog 50 t104 g) fun t105 =>
  gdV t96 true (binL Try.prog .eql 3 true t105 (.int .i64 (0))) fun t106 =>
  vK (pickL t96 t106 (.bool false)) fun t107 =>
  ((gK (storeV 1 x4 t107 g) fun g =>
  
  retC Try.prog [.cell 4 4] [(4, x4)] g K) ∧ True)) ∧ True)) (
  gdV t96 true (lenL Try.prog 103 undefL g) fun t103 =>
  ((gd t96 true g (fun K => Ok Try.prog 31 [t98, t103] g K) fun t104 g =>
  
  gdV t96 true (lenL Try.prog 50 t104 g) fun t105 =>
  gdV t96 true (binL Try.prog .eql 3 true t105 (.int .i64 (0))) fun t106 =>
  vK (pickL t96 t106 (.bool false)) fun t107 =>
  ((gK (storeV 1 x4 t107 g) fun g =>
  
  retC Try.prog [.cell 4 4] [(4, x4)] g K) ∧ True)) ∧ True))) (
  gdV t96 true (nilCheckL undefL) fun t100 =>
  gdV t96 true (fieldAddrL 2 t100) fun t101 =>
  gdD t96 true (loadV none t101 g) (fun t102 =>
  gdV t96 true (lenL Try.prog 103 t102 g) fun t103 =>
  ((gd t96 true g (fun K => Ok Try.prog 31 [t98, t103] g K) fun t104 g =>
  
  gdV t96 true (lenL Try.prog 50 t104 g) fun t105 =>
  gdV t96 true (binL Try.prog .eql 3 true t105 (.int .i64 (0))) fun t106 =>
  vK (pickL t96 t106 (.bool false)) fun t107 =>
  ((gK (storeV 1 x4 t107 g) fun g =>
  
  retC Try.prog [.cell 4 4] [(4, x4)] g K) ∧ True)) ∧ True)) (
  gdV t96 true (lenL Try.prog 103 undefL g) fun t103 =>
  ((gd t96 true g (fun K => Ok Try.prog 31 [t98, t103] g K) fun t104 g =>
  
  gdV t96 true (lenL Try.prog 50 t104 g) fun t105 =>
  gdV t96 true (binL Try.prog .eql 3 true t105 (.int .i64 (0))) fun t106 =>
  vK (pickL t96 t106 (.bool false)) fun t107 =>
  ((gK (storeV 1 x4 t107 g) fun g =>
  
  retC Try.prog [.cell 4 4] [(4, x4)] g K) ∧ True)) ∧ True)))) ∧ True)) ∧ True)) ∧ True)))) ∧ True)) (
  ((gd t77 true g (fun K => Ok Try.prog 32 [t79] g K) fun t80 g =>
  ((loadV none x3 g) = some t81 ∧ 
  ((gd t77 true g (fun K => Ok Try.prog 51 [t80, undefL] g K) fun t85 g =>
  
  vK (pickL t77 t85 (.bool false)) fun t86 =>
  gdV t86 true (some x0) fun t88 =>
  ((gd t86 true g (fun K => Ok Try.prog 28 [t88] g K) fun t89 g =>
  
  vK (pickL t86 t89 (.bool false)) fun t90 =>
  gdV t90 true (some x0) fun t92 =>
  ((gd t90 true g (fun K => Ok Try.prog 31 [t92, (.int .i64 (-1))] g K) fun t93 g =>
  
  gdV t90 true (lenL Try.prog 50 t93 g) fun t94 =>
  gdV t90 true (binL Try.prog .eql 3 true t94 (.int .i64 (0))) fun t95 =>
  vK (pickL t90 t95 (.bool false)) fun t96 =>
  gdV t96 true (some x0) fun t98 =>
  gdD t96 true (loadV none x3 g) (fun t99 =>
  gdV t96 true (nilCheckL t99) fun t100 =>
  gdV t96 true (fieldAddrL 2 t100) fun t101 =>
  gdD t96 true (loadV none t101 g) (fun t102 =>
  gdV t96 true (lenL Try.prog 103 t102 g) fun t103 =>
  ((gd t96 true g (fun K => Ok Try.prog 31 [t98, t103] g K) fun t104 g =>
  
  gdV t96 true (lenL Try.prog 50 t104 g) fun t105 =>
  gdV t96 true (binL Try.prog .eql 3 true t105 (.int .i64 (0))) fun t106 =>
  vK (pickL t96 t106 (.bool false)) fun t107 =>
  ((gK (storeV 1 x4 t107 g) fun g =>
  
  retC Try.prog [.cell 4 4] [(4, x4)] g K) ∧ True)) ∧ True)) (
  gdV t96 true (lenL Try.prog 103 undefL g) fun t103 =>
  ((gd t96 true g (fun K => Ok Try.prog 31 [t98, t103] g K) fun t104 g =>
  
  gdV t96 true (lenL Try.prog 50 t104 g) fun t105 =>
  gdV t96 true (binL Try.prog .eql 3 true t105 (.int .i64 (0))) fun t106 =>
  vK (pickL t96 t106 (.bool false)) fun t107 =>
  ((gK (storeV 1 x4 t107 g) fun g =>
  
  retC Try.prog [.cell 4 4] [(4, x4)] g K) ∧ True)) ∧ True))) (
  gdV t96 true (nilCheckL undefL) fun t100 =>
  gdV t96 true (fieldAddrL 2 t100) fun t101 =>
  gdD t96 true (loadV none t101 g) (fun t102 =>
  gdV t96 true (lenL Try.prog 103 t102 g) fun t103 =>
  ((gd t96 true g (fun K => Ok Try.prog 31 [t98, t103] g K) fun t104 g =>
  
  gdV t96 true (lenL Try.prog 50 t104 g) fun t105 =>
  gdV t96 true (binL Try.prog .eql 3 true t105 (.int .i64 (0))) fun t106 =>
  vK (pickL t96 t106 (.bool false)) fun t107 =>
  ((gK (storeV 1 x4 t107 g) fun g =>
  
  retC Try.prog [.cell 4 4] [(4, x4)] g K) ∧ True)) ∧ True)) (
  gdV t96 true (lenL Try.prog 103 undefL g) fun t103 =>
  ((gd t96 true g (fun K => Ok Try.prog 31 [t98, t103] g K) fun t104 g =>
  
  gdV t96 true (lenL Try.prog 50 t104 g) fun t105 =>
  gdV t96 true (binL Try.prog .eql 3 true t105 (.int .i64 (0))) fun t106 =>
  vK (pickL t96 t106 (.bool false)) fun t107 =>
  ((gK (storeV 1 x4 t107 g) fun g =>
  
  retC Try.prog [.cell 4 4] [(4, x4)] g K) ∧ True)) ∧ True)))) ∧ True)) ∧ True)) ∧ True))) ∧ True))) (
  gdV t77 true (nilCheckL undefL) fun t82 =>
  gdV t77 true (fieldAddrL 3 t82) fun t83 =>
  gdD t77 true (loadV none t83 g) (fun t84 =>
  ((gd t77 true g (fun K => Ok Try.prog 32 [t79] g K) fun t80 g =>
  ((loadV none t83 g) = some t84 ∧ 
  ((gd t77 true g (fun K => Ok Try.prog 51 [t80, t84] g K) fun t85 g =>
  
  vK (pickL t77 t85 (.bool false)) fun t86 =>
  gdV t86 true (some x0) fun t88 =>
  ((gd t86 true g (fun K => Ok Try.prog 28 [t88] g K) fun t89 g =>
  
  vK (pickL t86 t89 (.bool false)) fun t90 =>
  gdV t90 true (some x0) fun t92 =>
  ((gd t90 true g (fun K => Ok Try.prog 31 [t92, (.int .i64 (-1))] g K) fun t93 g =>
  
  gdV t90 true (lenL Try.prog 50 t93 g) fun t94 =>
  gdV t90 true (binL Try.prog .eql 3 true t94 (.int .i64 (0))) fun t95 =>
  vK (pickL t90 t95 (.bool false)) fun t96 =>
  gdV t96 true (some x0) fun t98 =>
  gdD t96 true (loadV none x3 g) (fun t99 =>
  gdV t96 true (nilCheckL t99) fun t100 =>
  gdV t96 true (fieldAddrL 2 t100) fun t101 =>
  gdD t96 true (loadV none t101 g) (fun t102 =>
  gdV t96 true (lenL Try.prog 103 t102 g) fun t103 =>
  ((gd t96 true g (fun K => Ok Try.prog 31 [t98, t103] g K) fun t104 g =>
  
  gdV t96 true (lenL Try.prog 50 t104 g) fun t105 =>
  gdV t96 true (binL Try.prog .eql 3 true t105 (.int .i64 (0))) fun t106 =>
  vK (pickL t96 t106 (.bool false)) fun t107 =>
  ((gK (storeV 1 x4 t107 g) fun g =>
  
  retC Try.prog [.cell 4 4] [(4, x4)] g K) ∧ True)) ∧ True)) (
  gdV t96 true (lenL Try.prog 103 undefL g) fun t103 =>
  ((gd t96 true g (fun K => Ok Try.prog 31 [t98, t103] g K) fun t104 g =>
  
  gdV t96 true (lenL Try.prog 50 t104 g) fun t105 =>
  gdV t96 true (binL Try.prog .eql 3 true t105 (.int .i64 (0))) fun t106 =>
  vK (pickL t96 t106 (.bool false)) fun t107 =>
  ((gK (storeV 1 x4 t107 g) fun g =>
  
  retC Try.prog [.cell 4 4] [(4, x4)] g K) ∧ True)) ∧ True))) (
  gdV t96 true (nilCheckL undefL) fun t100 =>
  gdV t96 true (fieldAddrL 2 t100) fun t101 =>
  gdD t96 true (loadV none t101 g) (fun t102 =>
  gdV t96 true (lenL Try.prog 103 t102 g) fun t103 =>
  ((gd t96 true g (fun K => Ok Try.prog 31 [t98, t103] g K) fun t104 g =>
  
  gdV t96 true (lenL Try.prog 50 t104 g) fun t105 =>
  gdV t96 true (binL Try.prog .eql 3 true t105 (.int .i64 (0))) fun t106 =>
  vK (pickL t96 t106 (.bool false)) fun t107 =>
  ((gK (storeV 1 x4 t107 g) fun g =>
  
  retC Try.prog [.cell 4 4] [(4, x4)] g K) ∧ True)) ∧ True)) (
  gdV t96 true (lenL Try.prog 103 undefL g) fun t103 =>
  ((gd t96 true g (fun K => Ok Try.prog 31 [t98, t103] g K) fun t104 g =>
  
  gdV t96 true (lenL Try.prog 50 t104 g) fun t105 =>
  gdV t96 true (binL Try.prog .eql 3 true t105 (.int .i64 (0))) fun t106 =>
  vK (pickL t96 t106 (.bool false)) fun t107 =>
  ((gK (storeV 1 x4 t107 g) fun g =>
  
  retC Try.prog [.cell 4 4] [(4, x4)] g K) ∧ True)) ∧ True)))) ∧ True)) ∧ True)) ∧ True))) ∧ True)) (
  ((gd t77 true g (fun K => Ok Try.prog 32 [t79] g K) fun t80 g =>
  
  ((gd t77 true g (fun K => Ok Try.prog 51 [t80, undefL] g K) fun t85 g =>
  
  vK (pickL t77 t85 (.bool false)) fun t86 =>
  gdV t86 true (some x0) fun t88 =>
  ((gd t86 true g (fun K => Ok Try.prog 28 [t88] g K) fun t89 g =>
  
  vK (pickL t86 t89 (.bool false)) fun t90 =>
  gdV t90 true (some x0) fun t92 =>
  ((gd t90 true g (fun K => Ok Try.prog 31 [t92, (.int .i64 (-1))] g K) fun t93 g =>
  
  gdV t90 true (lenL Try.prog 50 t93 g) fun t94 =>
  gdV t90 true (binL Try.prog .eql 3 true t94 (.int .i64 (0))) fun t95 =>
  vK (pickL t90 t95 (.bool false)) fun t96 =>
  gdV t96 true (some x0) fun t98 =>
  gdD t96 true (loadV none x3 g) (fun t99 =>
  gdV t96 true (nilCheckL t99) fun t100 =>
  gdV t96 true (fieldAddrL 2 t100) fun t101 =>
  gdD t96 true (loadV none t101 g) (fun t102 =>
  gdV t96 true (lenL Try.prog 103 t102 g) fun t103 =>
  ((gd t96 true g (fun K => Ok Try.prog 31 [t98, t103] g K) fun t104 g =>
  
  gdV t96 true (lenL Try.prog 50 t104 g) fun t105 =>
  gdV t96 true (binL Try.prog .eql 3 true t105 (.int .i64 (0))) fun t106 =>
  vK (pickL t96 t106 (.bool false)) fun t107 =>
  ((gK (storeV 1 x4 t107 g) fun g =>
  
  retC Try.prog [.cell 4 4] [(4, x4)] g K) ∧ True)) ∧ True)) (
  gdV t96 true (lenL Try.prog 103 undefL g) fun t103 =>
  ((gd t96 true g (fun K => Ok Try.prog 31 [t98, t103] g K) fun t104 g =>
  
  gdV t96 true (lenL Try.prog 50 t104 g) fun t105 =>
  gdV t96 true (binL Try.prog .eql 3 true t105 (.int .i64 (0))) fun t106 =>
  vK (pickL t96 t106 (.bool false)) fun t107 =>
  ((gK (storeV 1 x4 t107 g) fun g =>
  
  retC Try.prog [.cell 4 4] [(4, x4)] g K) ∧ True)) ∧ True))) (
  gdV t96 true (nilCheckL undefL) fun t100 =>
  gdV t96 true (fieldAddrL 2 t100) fun t101 =>
  gdD t96 true (loadV none t101 g) (fun t102 =>
  gdV t96 true (lenL Try.prog 103 t102 g) fun t103 =>
  ((gd t96 true g (fun K => Ok Try.prog 31 [t98, t103] g K) fun t104 g =>
  
  gdV t96 true (lenL Try.prog 50 t104 g) fun t105 =>
  gdV t96 true (binL Try.prog .eql 3 true t105 (.int .i64 (0))) fun t106 =>
  vK (pickL t96 t106 (.bool false)) fun t107 =>
  ((gK (storeV 1 x4 t107 g) fun g =>
  
  retC Try.prog [.cell 4 4] [(4, x4)] g K) ∧ True)) ∧ True)) (
  gdV t96 true (lenL Try.prog 103 undefL g) fun t103 =>
  ((gd t96 true g (fun K => Ok Try.prog 31 [t98, t103] g K) fun t104 g =>
  
  gdV t96 true (lenL Try.prog 50 t104 g) fun t105 =>
  gdV t96 true (binL Try.prog .eql 3 true t105 (.int .i64 (0))) fun t106 =>
  vK (pickL t96 t106 (.bool false)) fun t107 =>
  ((gK (storeV 1 x4 t107 g) fun g =>
  
  retC Try.prog [.cell 4 4] [(4, x4)] g K) ∧ True)) ∧ True)))) ∧ True)) ∧ True)) ∧ True)) ∧ True))))) ∧ True)) (
  gdV t65 true (binL Try.prog .sub 3 false t73 undefL) fun t75 =>
  ((gd t65 true g (fun K => Ok Try.prog 27 [t67] g K) fun t68 g =>
  
  gdV t65 true (binL Try.prog .eql 3 false t68 t75) fun t76 =>
  vK (pickL t65 t76 (.bool false)) fun t77 =>
  gdV t77 true (some x0) fun t79 =>
  gdD t77 true (loadV none x3 g) (fun t81 =>
  gdV t77 true (nilCheckL t81) fun t82 =>
  gdV t77 true (fieldAddrL 3 t82) fun t83 =>
  gdD t77 true (loadV none t83 g) (fun t84 =>
  ((gd t77 true g (fun K => Ok Try.prog 32 [t79] g K) fun t80 g =>
  ((loadV none t83 g) = some t84 ∧ ((loadV none x3 g) = some t81 ∧ 
  ((gd t77 true g (fun K => Ok Try.prog 51 [t80, t84] g K) fun t85 g =>
  
  vK (pickL t77 t85 (.bool false)) fun t86 =>
  gdV t86 true (some x0) fun t88 =>
  ((gd t86 true g (fun K => Ok Try.prog 28 [t88] g K) fun t89 g =>
  
  vK (pickL t86 t89 (.bool false)) fun t90 =>
  gdV t90 true (some x0) fun t92 =>
  ((gd t90 true g (fun K => Ok Try.prog 31 [t92, (.int .i64 (-1))] g K) fun t93 g =>
  
  gdV t90 true (lenL Try.prog 50 t93 g) fun t94 =>
  gdV t90 true (binL Try.prog .eql 3 true t94 (.int .i64 (0))) fun t95 =>
  vK (pickL t90 t95 (.bool false)) fun t96 =>
  gdV t96 true (some x0) fun t98 =>
  gdD t96 true (loadV none x3 g) (fun t99 =>
  gdV t96 true (nilCheckL t99) fun t100 =>
  gdV t96 true (fieldAddrL 2 t100) fun t101 =>
  gdD t96 true (loadV none t101 g) (fun t102 =>
  gdV t96 true (lenL Try.prog 103 t102 g) fun t103 =>
  ((gd t96 true g (fun K => Ok Try.prog 31 [t98, t103] g K) fun t104 g =>
  
  gdV t96 true (lenL Try.prog 50 t104 g) fun t105 =>
  gdV t96 true (binL Try.prog .eql 3 true t105 (.int .i64 (0))) fun t106 =>
  vK (pickL t96 t106 (.bool false)) fun t107 =>
  ((gK (storeV 1 x4 t107 g) fun g =>
  
  retC Try.prog [.cell 4 4] [(4, x4)] g K) ∧ True)) ∧ True)) (
  gdV t96 true (lenL Try.prog 103 undefL g) fun t103 =>
  ((gd t96 true g (fun K => Ok Try.prog 31 [t98, t103] g K) fun t104 g =>
  
  gdV t96 true (lenL Try.prog 50 t104 g) fun t105 =>
  gdV t96 true (binL Try.prog .eql 3 true t105 (.int .i64 (0))) fun t106 =>
  vK (pickL t96 t106 (.bool false)) fun t107 =>
  ((gK (storeV 1 x4 t107 g) fun g =>
  
  retC Try.prog [.cell 4 4] [(4, x4)] g K) ∧ True)) ∧ True))) (
  gdV t96 true (nilCheckL undefL) fun t100 =>
  gdV t96 true (fieldAddrL 2 t100) fun t101 =>
  gdD t96 true (loadV none t101 g) (fun t102 =>
  gdV t96 true (lenL Try.prog 103 t102 g) fun t103 =>
  ((gd t96 true g (fun K => Ok Try.prog 31 [t98, t103] g K) fun t104 g =>
  
  gdV t96 true (lenL Try.prog 50 t104 g) fun t105 =>
  gdV t96 true (binL Try.prog .eql 3 true t105 (.int .i64 (0))) fun t106 =>
  vK (pickL t96 t106 (.bool false)) fun t107 =>
  ((gK (storeV 1 x4 t107 g) fun g =>
  
  retC Try.prog [.cell 4 4] [(4, x4)] g K) ∧ True)) ∧ True)) (
  gdV t96 true (lenL Try.prog 103 undefL g) fun t103 =>
  ((gd t96 true g (fun K => Ok Try.prog 31 [t98, t103] g K) fun t104 g =>
  
  gdV t96 true (lenL Try.prog 50 t104 g) fun t105 =>
  gdV t96 true (binL Try.prog .eql 3 true t105 (.int .i64 (0))) fun t106 =>
  vK (pickL t96 t106 (.bool false)) fun t107 =>
  ((gK (storeV 1 x4 t107 g) fun g =>
  
  retC Try.prog [.cell 4 4] [(4, x4)] g K) ∧ True)) ∧ True)))) ∧ True)) ∧ True)) ∧ True)))) ∧ True)) (
  ((gd t77 true g (fun K => Ok Try.prog 32 [t79] g K) fun t80 g =>
  ((loadV none x3 g) = some t81 ∧ 
  ((gd t77 true g (fun K => Ok Try.prog 51 [t80, undefL] g K) fun t85 g =>
  
  vK (pickL t77 t85 (.bool false)) fun t86 =>
  gdV t86 true (some x0) fun t88 =>
  ((gd t86 true g (fun K => Ok Try.prog 28 [t88] g K) fun t89 g =>
  
  vK (pickL t86 t89 (.bool false)) fun t90 =>
  gdV t90 true (some x0) fun t92 =>
  ((gd t90 true g (fun K => Ok Try.prog 31 [t92, (.int .i64 (-1))] g K) fun t93 g =>
  
  gdV t90 true (lenL Try.prog 50 t93 g) fun t94 =>
  gdV t90 true (binL Try.prog .eql 3 true t94 (.int .i64 (0))) fun t95 =>
  vK (pickL t90 t95 (.bool false)) fun t96 =>
  gdV t96 true (some x0) fun t98 =>
  gdD t96 true (loadV none x3 g) (fun t99 =>
  gdV t96 true (nilCheckL t99) fun t100 =>
  gdV t96 true (fieldAddrL 2 t100) fun t101 =>
  gdD t96 true (loadV none t101 g) (fun t102 =>
  gdV t96 true (lenL Try.prog 103 t102 g) fun t103 =>
  ((gd t96 true g (fun K => Ok Try.prog 31 [t98, t103] g K) fun t104 g =>
  
  gdV t96 true (lenL Try.prog 50 t104 g) fun t105 =>
  gdV t96 true (binL Try.prog .eql 3 true t105 (.int .i64 (0))) fun t106 =>
  vK (pickL t96 t106 (.bool false)) fun t107 =>
  ((gK (storeV 1 x4 t107 g) fun g =>
  
  retC Try.prog [.cell 4 4] [(4, x4)] g K) ∧ True)) ∧ True)) (
  gdV t96 true (lenL Try.prog 103 undefL g) fun t103 =>
  ((gd t96 true g (fun K => Ok Try.prog 31 [t98, t103] g K) fun t104 g =>
  
  gdV t96 true (lenL Try.prog 50 t104 g) fun t105 =>
  gdV t96 true (binL Try.prog .eql 3 true t105 (.int .i64 (0))) fun t106 =>
  vK (pickL t96 t106 (.bool false)) fun t107 =>
  ((gK (storeV 1 x4 t107 g) fun g =>
  
  retC Try.prog [.cell 4 4] [(4, x4)] g K) ∧ True)) ∧ True))) (
  gdV t96 true (nilCheckL undefL) fun t100 =>
  gdV t96 true (fieldAddrL 2 t100) fun t101 =>
  gdD t96 true (loadV none t101 g) (fun t102 =>
  gdV t96 true (lenL Try.prog 103 t102 g) fun t103 =>
  ((gd t96 true g (fun K => Ok Try.prog 31 [t98, t103] g K) fun t104 g =>
  
  gdV t96 true (lenL Try.prog 50 t104 g) fun t105 =>
  gdV t96 true (binL Try.prog .eql 3 true t105 (.int .i64 (0))) fun t106 =>
  vK (pickL t96 t106 (.bool false)) fun t107 =>
  ((gK (storeV 1 x4 t107 g) fun g =>
  
  retC Try.prog [.cell 4 4] [(4, x4)] g K) ∧ True)) ∧ True)) (
  gdV t96 true (lenL Try.prog 103 undefL g) fun t103 =>
  ((gd t96 true g (fun K => Ok Try.prog 31 [t98, t103] g K) fun t104 g =>
  
  gdV t96 true (lenL Try.prog 50 t104 g) fun t105 =>
  gdV t96 true (binL Try.prog .eql 3 true t105 (.int .i64 (0))) fun t106 =>
  vK (pickL t96 t106 (.bool false)) fun t107 =>
  ((gK (storeV 1 x4 t107 g) fun g =>
  
  retC Try.prog [.cell 4 4] [(4, x4)] g K) ∧ True)) ∧ True)))) ∧ True)) ∧ True)) ∧ True))) ∧ True))) (
  gdV t77 true (nilCheckL undefL) fun t82 =>
  gdV t77 true (fieldAddrL 3 t82) fun t83 =>
  gdD t77 true (loadV none t83 g) (fun t84 =>
  ((gd t77 true g (fun K => Ok Try.prog 32 [t79] g K) fun t80 g =>
  ((loadV none t83 g) = some t84 ∧ 
  ((gd t77 true g (fun K => Ok Try.prog 51 [t80, t84] g K) fun t85 g =>
  
  vK (pickL t77 t85 (.bool false)) fun t86 =>
  gdV t86 true (some x0) fun t88 =>
  ((gd t86 true g (fun K => Ok Try.prog 28 [t88] g K) fun t89 g =>
  
  vK (pickL t86 t89 (.bool false)) fun t90 =>
  gdV t90 true (some x0) fun t92 =>
  ((gd t90 true g (fun K => Ok Try.prog 31 [t92, (.int .i64 (-1))] g K) fun t93 g =>
  
  gdV t90 true (lenL Try.prog 50 t93 g) fun t94 =>
  gdV t90 true (binL Try.prog .eql 3 true t94 (.int .i64 (0))) fun t95 =>
  vK (pickL t90 t95 (.bool false)) fun t96 =>
  gdV t96 true (some x0) fun t98 =>
  gdD t96 true (loadV none x3 g) (fun t99 =>
  gdV t96 true (nilCheckL t99) fun t100 =>
  gdV t96 true (fieldAddrL 2 t100) fun t101 =>
  gdD t96 true (loadV none t101 g) (fun t102 =>
  gdV t96 true (lenL Try.prog 103 t102 g) fun t103 =>
  ((gd t96 true g (fun K => Ok Try.prog 31 [t98, t103] g K) fun t104 g =>
  
  gdV t96 true (lenL Try.prog 50 t104 g) fun t105 =>
  gdV t96 true (binL Try.prog .eql 3 true t105 (.int .i64 (0))) fun t106 =>
  vK (pickL t96 t106 (.bool false)) fun t107 =>
  ((gK (storeV 1 x4 t107 g) fun g =>
  
  retC Try.prog [.cell 4 4] [(4, x4)] g K) ∧ True)) ∧ True)) (
  gdV t96 true (lenL Try.prog 103 undefL g) fun t103 =>
  ((gd t96 true g (fun K => Ok Try.prog 31 [t98, t103] g K) fun t104 g =>
  
  gdV t96 true (lenL Try.prog 50 t104 g) fun t105 =>
  gdV t96 true (binL Try.prog .eql 3 true t105 (.int .i64 (0))) fun t106 =>
  vK (pickL t96 t106 (.bool false)) fun t107 =>
  ((gK (storeV 1 x4 t107 g) fun g =>
  
  retC Try.prog [.cell 4 4] [(4, x4)] g K) ∧ True)) ∧ True))) (
  gdV t96 true (nilCheckL undefL) fun t100 =>
  gdV t96 true (fieldAddrL 2 t100) fun t101 =>
  gdD t96 true (loadV none t101 g) (fun t102 =>
  gdV t96 true (lenL Try.prog 103 t102 g) fun t103 =>
  ((gd t96 true g (fun K => Ok Try.prog 31 [t98, t103] g K) fun t104 g =>
  
  gdV t96 true (lenL Try.prog 50 t104 g) fun t105 =>
  gdV t96 true (binL Try.prog .eql 3 true t105 (.int .i64 (0))) fun t106 =>
  vK (pickL t96 t106 (.bool false)) fun t107 =>
  ((gK (storeV 1 x4 t107 g) fun g =>
  
  retC Try.prog [.cell 4 4] [(4, x4)] g K) ∧ True)) ∧ True)) (
  gdV t96 true (lenL Try.prog 103 undefL g) fun t103 =>
  ((gd t96 true g (fun K => Ok Try.prog 31 [t98, t103] g K) fun t104 g =>
  
  gdV t96 true (lenL Try.prog 50 t104 g) fun t105 =>
  gdV t96 true (binL Try.prog .eql 3 true t105 (.int .i64 (0))) fun t106 =>
  vK (pickL t96 t106 (.bool false)) fun t107 =>
  ((gK (storeV 1 x4 t107 g) fun g =>
  
  retC Try.prog [.cell 4 4] [(4, x4)] g K) ∧ True)) ∧ True)))) ∧ True)) ∧ True)) ∧ True))) ∧ True)) (
  ((gd t77 true g (fun K => Ok Try.prog 32 [t79] g K) fun t80 g =>
  
  ((gd t77 true g (fun K => Ok Try.prog 51 [t80, undefL] g K) fun t85 g =>
  
  vK (pickL t77 t85 (.bool false)) fun t86 =>
  gdV t86 true (some x0) fun t88 =>
  ((gd t86 true g (fun K => Ok Try.prog 28 [t88] g K) fun t89 g =>
  
  vK (pickL t86 t89 (.bool false)) fun t90 =>
  gdV t90 true (some x0) fun t92 =>
  ((gd t90 true g (fun K => Ok Try.prog 31 [t92, (.int .i64 (-1))] g K) fun t93 g =>
  
  gdV t90 true (lenL Try.prog 50 t93 g) fun t94 =>
  gdV t90 true (binL Try.prog .eql 3 true t94 (.int .i64 (0))) fun t95 =>
  vK (pickL t90 t95 (.bool false)) fun t96 =>
  gdV t96 true (some x0) fun t98 =>
  gdD t96 true (loadV none x3 g) (fun t99 =>
  gdV t96 true (nilCheckL t99) fun t100 =>
  gdV t96 true (fieldAddrL 2 t100) fun t101 =>
  gdD t96 true (loadV none t101 g) (fun t102 =>
  gdV t96 true (lenL Try.prog 103 t102 g) fun t103 =>
  ((gd t96 true g (fun K => Ok Try.prog 31 [t98, t103] g K) fun t104 g =>
  
  gdV t96 true (lenL Try.prog 50 t104 g) fun t105 =>
  gdV t96 true (binL Try.prog .eql 3 true t105 (.int .i64 (0))) fun t106 =>
  vK (pickL t96 t106 (.bool false)) fun t107 =>
  ((gK (storeV 1 x4 t107 g) fun g =>
  
  retC Try.prog [.cell 4 4] [(4, x4)] g K) ∧ True)) ∧ True)) (
  gdV t96 true (lenL Try.prog 103 undefL g) fun t103 =>
  ((gd t96 true g (fun K => Ok Try.prog 31 [t98, t103] g K) fun t104 g =>
  
  gdV t96 true (lenL Try.prog 50 t104 g) fun t105 =>
  gdV t96 true (binL Try.prog .eql 3 true t105 (.int .i64 (0))) fun t106 =>
  vK (pickL t96 t106 (.bool false)) fun t107 =>
  ((gK (storeV 1 x4 t107 g) fun g =>
  
  retC Try.prog [.cell 4 4] [(4, x4)] g K) ∧ True)) ∧ True))) (
  gdV t96 true (nilCheckL undefL) fun t100 =>
  gdV t96 true (fieldAddrL 2 t100) fun t101 =>
  gdD t96 true (loadV none t101 g) (fun t102 =>
  gdV t96 true (lenL Try.prog 103 t102 g) fun t103 =>
  ((gd t96 true g (fun K => Ok Try.prog 31 [t98, t103] g K) fun t104 g =>
  
  gdV t96 true (lenL Try.prog 50 t104 g) fun t105 =>
  gdV t96 true (binL Try.prog .eql 3 true t105 (.int .i64 (0))) fun t106 =>
  vK (pickL t96 t106 (.bool false)) fun t107 =>
  ((gK (storeV 1 x4 t107 g) fun g =>
  
  retC Try.prog [.cell 4 4] [(4, x4)] g K) ∧ True)) ∧ True)) (
  gdV t96 true (lenL Try.prog 103 undefL g) fun t103 =>
  ((gd t96 true g (fun K => Ok Try.prog 31 [t98, t103] g K) fun t104 g =>
  
  gdV t96 true (lenL Try.prog 50 t104 g) fun t105 =>
  gdV t96 true (binL Try.prog .eql 3 true t105 (.int .i64 (0))) fun t106 =>
  vK (pickL t96 t106 (.bool false)) fun t107 =>
  ((gK (storeV 1 x4 t107 g) fun g =>
  
  retC Try.prog [.cell 4 4] [(4, x4)] g K) ∧ True)) ∧ True)))) ∧ True)) ∧ True)) ∧ True)) ∧ True)))) ∧ True)))))) ∧ True)) (
  ((gd t59 true g (fun K => Ok Try.prog 26 [t61] g K) fun t62 g =>
  
  gdV t59 true (binL Try.prog .eql 3 false t62 undefL) fun t64 =>
  vK (pickL t59 t64 (.bool false)) fun t65 =>
  gdV t65 true (some x0) fun t67 =>
  gdD t65 true (loadV none x3 g) (fun t69 =>
  gdV t65 true (nilCheckL t69) fun t70 =>
  gdV t65 true (fieldAddrL 1 t70) fun t71 =>
  gdD t65 true (loadV none t71 g) (fun t72 =>
  gdV t65 true (lenL Try.prog 50 t72 g) fun t73 =>
  gdD t65 true (loadV none x7 g) (fun t74 =>
  gdV t65 true (binL Try.prog .sub 3 false t73 t74) fun t75 =>
  ((gd t65 true g (fun K => Ok Try.prog 27 [t67] g K) fun t68 g =>
  ((loadV none x7 g) = some t74 ∧ ((loadV none t71 g) = some t72 ∧ ((loadV none x3 g) = some t69 ∧ 
  gdV t65 true (binL Try.prog .eql 3 false t68 t75) fun t76 =>
  vK (pickL t65 t76 (.bool false)) fun t77 =>
  gdV t77 true (some x0) fun t79 =>
  gdD t77 true (loadV none x3 g) (fun t81 =>
  gdV t77 true (nilCheckL t81) fun t82 =>
  gdV t77 true (fieldAddrL 3 t82) fun t83 =>
  gdD t77 true (loadV none t83 g) (fun t84 =>
  ((gd t77 true g (fun K => Ok Try.prog 32 [t79] g K) fun t80 g =>
  ((loadV none t83 g) = some t84 ∧ ((loadV none x3 g) = some t81 ∧ 
  ((gd t77 true g (fun K => Ok Try.prog 51 [t80, t84] g K) fun t85 g =>
  
  vK (pickL t77 t85 (.bool false)) fun t86 =>
  gdV t86 true (some x0) fun t88 =>
  ((gd t86 true g (fun K => Ok Try.prog 28 [t88] g K) fun t89 g =>
  
  vK (pickL t86 t89 (.bool false)) fun t90 =>
  gdV t90 true (some x0) fun t92 =>
  ((gd t90 true g (fun K => Ok Try.prog 31 [t92, (.int .i64 (-1))] g K) fun t93 g =>
  
  gdV t90 true (lenL Try.prog 50 t93 g) fun t94 =>
  gdV t90 true (binL Try.prog .eql 3 true t94 (.int .i64 (0))) fun t95 =>
  vK (pickL t90 t95 (.bool false)) fun t96 =>
  gdV t96 true (some x0) fun t98 =>
  gdD t96 true (loadV none x3 g) (fun t99 =>
  gdV t96 true (nilCheckL t99) fun t100 =>
  gdV t96 true (fieldAddrL 2 t100) fun t101 =>
  gdD t96 true (loadV none t101 g) (fun t102 =>
  gdV t96 true (lenL Try.prog 103 t102 g) fun t103 =>
  ((gd t96 true g (fun K => Ok Try.prog 31 [t98, t103] g K) fun t104 g =>
  
  gdV t96 true (lenL Try.prog 50 t104 g) fun t105 =>
  gdV t96 true (binL Try.prog .eql 3 true t105 (.int .i64 (0))) fun t106 =>
  vK (pickL t96 t106 (.bool false)) fun t107 =>
  ((gK (storeV 1 x4 t107 g) fun g =>
  
  retC Try.prog [.cell 4 4] [(4, x4)] g K) ∧ True)) ∧ True)) (
  gdV t96 true (lenL Try.prog 103 undefL g) fun t103 =>
  ((gd t96 true g (fun K => Ok Try.prog 31 [t98, t103] g K) fun t104 g =>
  
  gdV t96 true (lenL Try.prog 50 t104 g) fun t105 =>
  gdV t96 true (binL Try.prog .eql 3 true t105 (.int .i64 (0))) fun t106 =>
  vK (pickL t96 t106 (.bool false)) fun t107 =>
  ((gK (storeV 1 x4 t107 g) fun g =>
  
  retC Try.prog [.cell 4 4] [(4, x4)] g K) ∧ True)) ∧ True))) (
  gdV t96 true (nilCheckL undefL) fun t100 =>
  gdV t96 true (fieldAddrL 2 t100) fun t101 =>
  gdD t96 true (loadV none t101 g) (fun t102 =>
  gdV t96 true (lenL Try.prog 103 t102 g) fun t103 =>
  ((gd t96 true g (fun K => Ok Try.prog 31 [t98, t103] g K) fun t104 g =>
  
  gdV t96 true (lenL Try.prog 50 t104 g) fun t105 =>
  gdV t96 true (binL Try.prog .eql 3 true t105 (.int .i64 (0))) fun t106 =>
  vK (pickL t96 t106 (.bool false)) fun t107 =>
  ((gK (storeV 1 x4 t107 g) fun g =>
  
  retC Try.prog [.cell 4 4] [(4, x4)] g K) ∧ True)) ∧ True)) (
  gdV t96 true (lenL Try.prog 103 undefL g) fun t103 =>
  ((gd t96 true g (fun K => Ok Try.prog 31 [t98, t103] g K) fun t104 g =>
  
  gdV t96 true (lenL Try.prog 50 t104 g) fun t105 =>
  gdV t96 true (binL Try.prog .eql 3 true t105 (.int .i64 (0))) fun t106 =>
  vK (pickL t96 t106 (.bool false)) fun t107 =>
  ((gK (storeV 1 x4 t107 g) fun g =>
  
  retC Try.prog [.cell 4 4] [(4, x4)] g K) ∧ True)) ∧ True)))) ∧ True)) ∧ True)) ∧ True)))) ∧ True)) (
  ((gd t77 true g (fun K => Ok Try.prog 32 [t79] g K) fun t80 g =>
  ((loadV none x3 g) = some t81 ∧ 
  ((gd t77 true g (fun K => Ok Try.prog 51 [t80, undefL] g K) fun t85 g =>
  
  vK (pickL t77 t85 (.bool false)) fun t86 =>
  gdV t86 true (some x0) fun t88 =>
  ((gd t86 true g (fun K => Ok Try.prog 28 [t88] g K) fun t89 g =>
  
  vK (pickL t86 t89 (.bool false)) fun t90 =>
  gdV t90 true (some x0) fun t92 =>
  ((gd t90 true g (fun K => Ok Try.prog 31 [t92, (.int .i64 (-1))] g K) fun t93 g =>
  
  gdV t90 true (lenL Try.prog 50 t93 g) fun t94 =>
  gdV t90 true (binL Try.prog .eql 3 true t94 (.int .i64 (0))) fun t95 =>
  vK (pickL t90 t95 (.bool false)) fun t96 =>
  gdV t96 true (some x0) fun t98 =>
  gdD t96 true (loadV none x3 g) (fun t99 =>
  gdV t96 true (nilCheckL t99) fun t100 =>
  gdV t96 true (fieldAddrL 2 t100) fun t101 =>
  gdD t96 true (loadV none t101 g) (fun t102 =>
  gdV t96 true (lenL Try.prog 103 t102 g) fun t103 =>
  ((gd t96 true g (fun K => Ok Try.prog 31 [t98, t103] g K) fun t104 g =>
  
  gdV t96 true (lenL Try.prog 50 t104 g) fun t105 =>
  gdV t96 true (binL Try.prog .eql 3 true t105 (.int .i64 (0))) fun t106 =>
  vK (pickL t96 t106 (.bool false)) fun t107 =>
  ((gK (storeV 1 x4 t107 g) fun g =>
  
  retC Try.prog [.cell 4 4] [(4, x4)] g K) ∧ True)) ∧ True)) (
  gdV t96 true (lenL Try.prog 103 undefL g) fun t103 =>
  ((gd t96 true g (fun K => Ok Try.prog 31 [t98, t103] g K) fun t104 g =>
  
  gdV t96 true (lenL Try.prog 50 t104 g) fun t105 =>
  gdV t96 true (binL Try.prog .eql 3 true t105 (.int .i64 (0))) fun t106 =>
  vK (pickL t96 t106 (.bool false)) fun t107 =>
  ((gK (storeV 1 x4 t107 g) fun g =>
  
  retC Try.prog [.cell 4 4] [(4, x4)] g K) ∧ True)) ∧ True))) (
  gdV t96 true (nilCheckL undefL) fun t100 =>
  gdV t96 true (fieldAddrL 2 t100) fun t101 =>
  gdD t96 true (loadV none t101 g) (fun t102 =>
  gdV t96 true (lenL Try.prog 103 t102 g) fun t103 =>
  ((gd t96 true g (fun K => Ok Try.prog 31 [t98, t103] g K) fun t104 g =>
  
  gdV t96 true (lenL Try.prog 50 t104 g) fun t105 =>
  gdV t96 true (binL Try.prog .eql 3 true t105 (.int .i64 (0))) fun t106 =>
  vK (pickL t96 t106 (.bool false)) fun t107 =>
  ((gK (storeV 1 x4 t107 g) fun g =>
  
  retC Try.prog [.cell 4 4] [(4, x4)] g K) ∧ True)) ∧ True)) (
  gdV t96 true (lenL Try.prog 103 undefL g) fun t103 =>
  ((gd t96 true g (fun K => Ok Try.prog 31 [t98, t103] g K) fun t104 g =>
  
  gdV t96 true (lenL Try.prog 50 t104 g) fun t105 =>
  gdV t96 true (binL Try.prog .eql 3 true t105 (.int .i64 (0))) fun t106 =>
  vK (pickL t96 t106 (.bool false)) fun t107 =>
  ((gK (storeV 1 x4 t107 g) fun g =>
  
  retC Try.prog [.cell 4 4] [(4, x4)] g K) ∧ True)) ∧ True)))) ∧ True)) ∧ True)) ∧ True))) ∧ True))) (
  gdV t77 true (nilCheckL undefL) fun t82 =>
  gdV t77 true (fieldAddrL 3 t82) fun t83 =>
  gdD t77 true (loadV none t83 g) (fun t84 =>
  ((gd t77 true g (fun K => Ok Try.prog 32 [t79] g K) fun t80 g =>
  ((loadV none t83 g) = some t84 ∧ 
  ((gd t77 true g (fun K => Ok Try.prog 51 [t80, t84] g K) fun t85 g =>
  
  vK (pickL t77 t85 (.bool false)) fun t86 =>
  gdV t86 true (some x0) fun t88 =>
  ((gd t86 true g (fun K => Ok Try.prog 28 [t88] g K) fun t89 g =>
  
  vK (pickL t86 t89 (.bool false)) fun t90 =>
  gdV t90 true (some x0) fun t92 =>
  ((gd t90 true g (fun K => Ok Try.prog 31 [t92, (.int .i64 (-1))] g K) fun t93 g =>
  
  gdV t90 true (lenL Try.prog 50 t93 g) fun t94 =>
  gdV t90 true (binL Try.prog .eql 3 true t94 (.int .i64 (0))) fun t95 =>
  vK (pickL t90 t95 (.bool false)) fun t96 =>
  gdV t96 true (some x0) fun t98 =>
  gdD t96 true (loadV none x3 g) (fun t99 =>
  gdV t96 true (nilCheckL t99) fun t100 =>
  gdV t96 true (fieldAddrL 2 t100) fun t101 =>
  gdD t96 true (loadV none t101 g) (fun t102 =>
  gdV t96 true (lenL Try.prog 103 t102 g) fun t103 =>
  ((gd t96 true g (fun K => Ok Try.prog 31 [t98, t103] g K) fun t104 g =>
  
  gdV t96 true (lenL Try.prog 50 t104 g) fun t105 =>
  gdV t96 true (binL Try.prog .eql 3 true t105 (.int .i64 (0))) fun t106 =>
  vK (pickL t96 t106 (.bool false)) fun t107 =>
  ((gK (storeV 1 x4 t107 g) fun g =>
  
  retC Try.prog [.cell 4 4] [(4, x4)] g K) ∧ True)) ∧ True)) (
  gdV t96 true (lenL Try.prog 103 undefL g) fun t103 =>
  ((gd t96 true g (fun K => Ok Try.prog 31 [t98, t103] g K) fun t104 g =>
  
  gdV t96 true (lenL Try.prog 50 t104 g) fun t105 =>
  gdV t96 true (binL Try.prog .eql 3 true t105 (.int .i64 (0))) fun t106 =>
  vK (pickL t96 t106 (.bool false)) fun t107 =>
  ((gK (storeV 1 x4 t107 g) fun g =>
  
  retC Try.prog [.cell 4 4] [(4, x4)] g K) ∧ True)) ∧ True))) (
  gdV t96 true (nilCheckL undefL) fun t100 =>
  gdV t96 true (fieldAddrL 2 t100) fun t101 =>
  gdD t96 true (loadV none t101 g) (fun t102 =>
  gdV t96 true (lenL Try.prog 103 t102 g) fun t103 =>
  ((gd t96 true g (fun K => Ok Try.prog 31 [t98, t103] g K) fun t104 g =>
  
  gdV t96 true (lenL Try.prog 50 t104 g) fun t105 =>
  gdV t96 true (binL Try.prog .eql 3 true t105 (.int .i64 (0))) fun t106 =>
  vK (pickL t96 t106 (.bool false)) fun t107 =>
  ((gK (storeV 1 x4 t107 g) fun g =>
  
  retC Try.prog [.cell 4 4] [(4, x4)] g K) ∧ True)) ∧ True)) (
  gdV t96 true (lenL Try.prog 103 undefL g) fun t103 =>
  ((gd t96 true g (fun K => Ok Try.prog 31 [t98, t103] g K) fun t104 g =>
  
  gdV t96 true (lenL Try.prog 50 t104 g) fun t105 =>
  gdV t96 true (binL Try.prog .eql 3 true t105 (.int .i64 (0))) fun t106 =>
  vK (pickL t96 t106 (.bool false)) fun t107 =>
  ((gK (storeV 1 x4 t107 g) fun g =>
  
  retC Try.prog [.cell 4 4] [(4, x4)] g K) ∧ True)) ∧ True)))) ∧ True)) ∧ True)) ∧ True))) ∧ True)) (
  ((gd t77 true g (fun K => Ok Try.prog 32 [t79] g K) fun t80 g =>
  
  ((gd t77 true g (fun K => Ok Try.prog 51 [t80, undefL] g K) fun t85 g =>
  
  vK (pickL t77 t85 (.bool false)) fun t86 =>
  gdV t86 true (some x0) fun t88 =>
  ((gd t86 true g (fun K => Ok Try.prog 28 [t88] g K) fun t89 g =>
  
  vK (pickL t86 t89 (.bool false)) fun t90 =>
  gdV t90 true (some x0) fun t92 =>
  ((gd t90 true g (fun K => Ok Try.prog 31 [t92, (.int .i64 (-1))] g K) fun t93 g =>
  
  gdV t90 true (lenL Try.prog 50 t93 g) fun t94 =>
  gdV t90 true (binL Try.prog .eql 3 true t94 (.int .i64 (0))) fun t95 =>
  vK (pickL t90 t95 (.bool false)) fun t96 =>
  gdV t96 true (some x0) fun t98 =>
  gdD t96 true (loadV none x3 g) (fun t99 =>
  gdV t96 true (nilCheckL t99) fun t100 =>
  gdV t96 true (fieldAddrL 2 t100) fun t101 =>
  gdD t96 true (loadV none t101 g) (fun t102 =>
  gdV t96 true (lenL Try.prog 103 t102 g) fun t103 =>
  ((gd t96 true g (fun K => Ok Try.prog 31 [t98, t103] g K) fun t104 g =>
  
  gdV t96 true (lenL Try.prog 50 t104 g) fun t105 =>
  gdV t96 true (binL Try.prog .eql 3 true t105 (.int .i64 (0))) fun t106 =>
  vK (pickL t96 t106 (.bool false)) fun t107 =>
  ((gK (storeV 1 x4 t107 g) fun g =>
  
  retC Try.prog [.cell 4 4] [(4, x4)] g K) ∧ True)) ∧ True)) (
  gdV t96 true (lenL Try.prog 103 undefL g) fun t103 =>
  ((gd t96 true g (fun K => Ok Try.prog 31 [t98, t103] g K) fun t104 g =>
  
  gdV t96 true (lenL Try.prog 50 t104 g) fun t105 =>
  gdV t96 true (binL Try.prog .eql 3 true t105 (.int .i64 (0))) fun t106 =>
  vK (pickL t96 t106 (.bool false)) fun t107 =>
  ((gK (storeV 1 x4 t107 g) fun g =>
  
  retC Try.prog [.cell 4 4] [(4, x4)] g K) ∧ True)) ∧ True))) (
  gdV t96 true (nilCheckL undefL) fun t100 =>
  gdV t96 true (fieldAddrL 2 t100) fun t101 =>
  gdD t96 true (loadV none t101 g) (fun t102 =>
  gdV t96 true (lenL Try.prog 103 t102 g) fun t103 =>
  ((gd t96 true g (fun K => Ok Try.prog 31 [t98, t103] g K) fun t104 g =>
  
  gdV t96 true (lenL Try.prog 50 t104 g) fun t105 =>
  gdV t96 true (binL Try.prog .eql 3 true t105 (.int .i64 (0))) fun t106 =>
  vK (pickL t96 t106 (.bool false)) fun t107 =>
  ((gK (storeV 1 x4 t107 g) fun g =>
  
  retC Try.prog [.cell 4 4] [(4, x4)] g K) ∧ True)) ∧ True)) (
  gdV t96 true (lenL Try.prog 103 undefL g) fun t103 =>
  ((gd t96 true g (fun K => Ok Try.prog 31 [t98, t103] g K) fun t104 g =>
  
  gdV t96 true (lenL Try.prog 50 t104 g) fun t105 =>
  gdV t96 true (binL Try.prog .eql 3 true t105 (.int .i64 (0))) fun t106 =>
  vK (pickL t96 t106 (.bool false)) fun t107 =>
  ((gK (storeV 1 x4 t107 g) fun g =>
  
  retC Try.prog [.cell 4 4] [(4, x4)] g K) ∧ True)) ∧ True)))) ∧ True)) ∧ True)) ∧ True)) ∧ True))))))) ∧ True)) (
  gdV t65 true (binL Try.prog .sub 3 false t73 undefL) fun t75 =>
  ((gd t65 true g (fun K => Ok Try.prog 27 [t67] g K) fun t68 g =>
  ((loadV none t71 g) = some t72 ∧ ((loadV none x3 g) = some t69 ∧ 
  gdV t65 true (binL Try.prog .eql 3 false t68 t75) fun t76 =>
  vK (pickL t65 t76 (.bool false)) fun t77 =>
  gdV t77 true (some x0) fun t79 =>
  gdD t77 true (loadV none x3 g) (fun t81 =>
  gdV t77 true (nilCheckL t81) fun t82 =>
  gdV t77 true (fieldAddrL 3 t82) fun t83 =>
  gdD t77 true (loadV none t83 g) (fun t84 =>
  ((gd t77 true g (fun K => Ok Try.prog 32 [t79] g K) fun t80 g =>
  ((loadV none t83 g) = some t84 ∧ ((loadV none x3 g) = some t81 ∧ 
  ((gd t77 true g (fun K => Ok Try.prog 51 [t80, t84] g K) fun t85 g =>
  
  vK (pickL t77 t85 (.bool false)) fun t86 =>
  gdV t86 true (some x0) fun t88 =>
  ((gd t86 true g (fun K => Ok Try.prog 28 [t88] g K) fun t89 g =>
  
  vK (pickL t86 t89 (.bool false)) fun t90 =>
  gdV t90 true (some x0) fun t92 =>
  ((gd t90 true g (fun K => Ok Try.prog 31 [t92, (.int .i64 (-1))] g K) fun t93 g =>
  
  gdV t90 true (lenL Try.prog 50 t93 g) fun t94 =>
  gdV t90 true (binL Try.prog .eql 3 true t94 (.int .i64 (0))) fun t95 =>
  vK (pickL t90 t95 (.bool false)) fun t96 =>
  gdV t96 true (some x0) fun t98 =>
  gdD t96 true (loadV none x3 g) (fun t99 =>
  gdV t96 true (nilCheckL t99) fun t100 =>
  gdV t96 true (fieldAddrL 2 t100) fun t101 =>
  gdD t96 true (loadV none t101 g) (fun t102 =>
  gdV t96 true (lenL Try.prog 103 t102 g) fun t103 =>
  ((gd t96 true g (fun K => Ok Try.prog 31 [t98, t103] g K) fun t104 g =>
  
  gdV t96 true (lenL Try.prog 50 t104 g) fun t105 =>
  gdV t96 true (binL Try.prog .eql 3 true t105 (.int .i64 (0))) fun t106 =>
  vK (pickL t96 t106 (.bool false)) fun t107 =>
  ((gK (storeV 1 x4 t107 g) fun g =>
  
  retC Try.prog [.cell 4 4] [(4, x4)] g K) ∧ True)) ∧ True)) (
  gdV t96 true (lenL Try.prog 103 undefL g) fun t103 =>
  ((gd t96 true g (fun K => Ok Try.prog 31 [t98, t103] g K) fun t104 g =>
  
  gdV t96 true (lenL Try.prog 50 t104 g) fun t105 =>
  gdV t96 true (binL Try.prog .eql 3 true t105 (.int .i64 (0))) fun t106 =>
  vK (pickL t96 t106 (.bool false)) fun t107 =>
  ((gK (storeV 1 x4 t107 g) fun g =>
  
  retC Try.prog [.cell 4 4] [(4, x4)] g K) ∧ True)) ∧ True))) (
  gdV t96 true (nilCheckL undefL) fun t100 =>
  gdV t96 true (fieldAddrL 2 t100) fun t101 =>
  gdD t96 true (loadV none t101 g) (fun t102 =>
  gdV t96 true (lenL Try.prog 103 t102 g) fun t103 =>
  ((gd t96 true g (fun K => Ok Try.prog 31 [t98, t103] g K) fun t104 g =>
  
  gdV t96 true (lenL Try.prog 50 t104 g) fun t105 =>
  gdV t96 true (binL Try.prog .eql 3 true t105 (.int .i64 (0))) fun t106 =>
  vK (pickL t96 t106 (.bool false)) fun t107 =>
  ((gK (storeV 1 x4 t107 g) fun g =>
  
  retC Try.prog [.cell 4 4] [(4, x4)] g K) ∧ True)) ∧ True)) (
  gdV t96 true (lenL Try.prog 103 undefL g) fun t103 =>
  ((gd t96 true g (fun K => Ok Try.prog 31 [t98, t103] g K) fun t104 g =>
  
  gdV t96 true (lenL Try.prog 50 t104 g) fun t105 =>
  gdV t96 true (binL Try.prog .eql 3 true t105 (.int .i64 (0))) fun t106 =>
  vK (pickL t96 t106 (.bool false)) fun t107 =>
  ((gK (storeV 1 x4 t107 g) fun g =>
  
  retC Try.prog [.cell 4 4] [(4, x4)] g K) ∧ True)) ∧ True)))) ∧ True)) ∧ True)) ∧ True)))) ∧ True)) (
  ((gd t77 true g (fun K => Ok Try.prog 32 [t79] g K) fun t80 g =>
  ((loadV none x3 g) = some t81 ∧ 
  ((gd t77 true g (fun K => Ok Try.prog 51 [t80, undefL] g K) fun t85 g =>
  
  vK (pickL t77 t85 (.bool false)) fun t86 =>
  gdV t86 true (some x0) fun t88 =>
  ((gd t86 true g (fun K => Ok Try.prog 28 [t88] g K) fun t89 g =>
  
  vK (pickL t86 t89 (.bool false)) fun t90 =>
  gdV t90 true (some x0) fun t92 =>
  ((gd t90 true g (fun K => Ok Try.prog 31 [t92, (.int .i64 (-1))] g K) fun t93 g =>
  
  gdV t90 true (lenL Try.prog 50 t93 g) fun t94 =>
  gdV t90 true (binL Try.prog .eql 3 true t94 (.int .i64 (0))) fun t95 =>
  vK (pickL t90 t95 (.bool false)) fun t96 =>
  gdV t96 true (some x0) fun t98 =>
  gdD t96 true (loadV none x3 g) (fun t99 =>
  gdV t96 true (nilCheckL t99) fun t100 =>
  gdV t96 true (fieldAddrL 2 t100) fun t101 =>
  gdD t96 true (loadV none t101 g) (fun t102 =>
  gdV t96 true (lenL Try.prog 103 t102 g) fun t103 =>
  ((gd t96 true g (fun K => Ok Try.prog 31 [t98, t103] g K) fun t104 g =>
  
  gdV t96 true (lenL Try.prog 50 t104 g) fun t105 =>
  gdV t96 true (binL Try.prog .eql 3 true t105 (.int .i64 (0))) fun t106 =>
  vK (pickL t96 t106 (.bool false)) fun t107 =>
  ((gK (storeV 1 x4 t107 g) fun g =>
  
  retC Try.prog [.cell 4 4] [(4, x4)] g K) ∧ True)) ∧ True)) (
  gdV t96 true (lenL Try.prog 103 undefL g) fun t103 =>
  ((gd t96 true g (fun K => Ok Try.prog 31 [t98, t103] g K) fun t104 g =>
  
  gdV t96 true (lenL Try.prog 50 t104 g) fun t105 =>
  gdV t96 true (binL Try.prog .eql 3 true t105 (.int .i64 (0))) fun t106 =>
  vK (pickL t96 t106 (.bool false)) fun t107 =>
  ((gK (storeV 1 x4 t107 g) fun g =>
  
  retC Try.prog [.cell 4 4] [(4, x4)] g K) ∧ True)) ∧ True))) (
  gdV t96 true (nilCheckL undefL) fun t100 =>
  gdV t96 true (fieldAddrL 2 t100) fun t101 =>
  gdD t96 true (loadV none t101 g) (fun t102 =>
  gdV t96 true (lenL Try.prog 103 t102 g) fun t103 =>
  ((gd t96 true g (fun K => Ok Try.prog 31 [t98, t103] g K) fun t104 g =>
  
  gdV t96 true (lenL Try.prog 50 t104 g) fun t105 =>
  gdV t96 true (binL Try.prog .eql 3 true t105 (.int .i64 (0))) fun t106 =>
  vK (pickL t96 t106 (.bool false)) fun t107 =>
  ((gK (storeV 1 x4 t107 g) fun g =>
  
  retC Try.prog [.cell 4 4] [(4, x4)] g K) ∧ True)) ∧ True)) (
  gdV t96 true (lenL Try.prog 103 undefL g) fun t103 =>
  ((gd t96 true g (fun K => Ok Try.prog 31 [t98, t103] g K) fun t104 g =>
  
  gdV t96 true (lenL Try.prog 50 t104 g) fun t105 =>
  gdV t96 true (binL Try.prog .eql 3 true t105 (.int .i64 (0))) fun t106 =>
  vK (pickL t96 t106 (.bool false)) fun t107 =>
  ((gK (storeV 1 x4 t107 g) fun g =>
  
  retC Try.prog [.cell 4 4] [(4, x4)] g K) ∧ True)) ∧ True)))) ∧ True)) ∧ True)) ∧ True))) ∧ True))) (
  gdV t77 true (nilCheckL undefL) fun t82 =>
  gdV t77 true (fieldAddrL 3 t82) fun t83 =>
  gdD t77 true (loadV none t83 g) (fun t84 =>
  ((gd t77 true g (fun K => Ok Try.prog 32 [t79] g K) fun t80 g =>
  ((loadV none t83 g) = some t84 ∧ 
  ((gd t77 true g (fun K => Ok Try.prog 51 [t80, t84] g K) fun t85 g =>
  
  vK (pickL t77 t85 (.bool false)) fun t86 =>
  gdV t86 true (some x0) fun t88 =>
  ((gd t86 true g (fun K => Ok Try.prog 28 [t88] g K) fun t89 g =>
  
  vK (pickL t86 t89 (.bool false)) fun t90 =>
  gdV t90 true (some x0) fun t92 =>
  ((gd t90 true g (fun K => Ok Try.prog 31 [t92, (.int .i64 (-1))] g K) fun t93 g =>
  
  gdV t90 true (lenL Try.prog 50 t93 g) fun t94 =>
  gdV t90 true (binL Try.prog .eql 3 true t94 (.int .i64 (0))) fun t95 =>
  vK (pickL t90 t95 (.bool false)) fun t96 =>
  gdV t96 true (some x0) fun t98 =>
  gdD t96 true (loadV none x3 g) (fun t99 =>
  gdV t96 true (nilCheckL t99) fun t100 =>
  gdV t96 true (fieldAddrL 2 t100) fun t101 =>
  gdD t96 true (loadV none t101 g) (fun t102 =>
  gdV t96 true (lenL Try.prog 103 t102 g) fun t103 =>
  ((gd t96 true g (fun K => Ok Try.prog 31 [t98, t103] g K) fun t104 g =>
  
  gdV t96 true (lenL Try.prog 50 t104 g) fun t105 =>
  gdV t96 true (binL Try.prog .eql 3 true t105 (.int .i64 (0))) fun t106 =>
  vK (pickL t96 t106 (.bool false)) fun t107 =>
  ((gK (storeV 1 x4 t107 g) fun g =>
  
  retC Try.prog [.cell 4 4] [(4, x4)] g K) ∧ True)) ∧ True)) (
  gdV t96 true (lenL Try.prog 103 undefL g) fun t103 =>
  ((gd t96 true g (fun K => Ok Try.prog 31 [t98, t103] g K) fun t104 g =>
  
  gdV t96 true (lenL Try.prog 50 t104 g) fun t105 =>
  gdV t96 true (binL Try.prog .eql 3 true t105 (.int .i64 (0))) fun t106 =>
  vK (pickL t96 t106 (.bool false)) fun t107 =>
  ((gK (storeV 1 x4 t107 g) fun g =>
  
  retC Try.prog [.cell 4 4] [(4, x4)] g K) ∧ True)) ∧ True))) (
  gdV t96 true (nilCheckL undefL) fun t100 =>
  gdV t96 true (fieldAddrL 2 t100) fun t101 =>
  gdD t96 true (loadV none t101 g) (fun t102 =>
  gdV t96 true (lenL Try.prog 103 t102 g) fun t103 =>
  ((gd t96 true g (fun K => Ok Try.prog 31 [t98, t103] g K) fun t104 g =>
  
  gdV t96 true (lenL Try.prog 50 t104 g) fun t105 =>
  gdV t96 true (binL Try.prog .eql 3 true t105 (.int .i64 (0))) fun t106 =>
  vK (pickL t96 t106 (.bool false)) fun t107 =>
  ((gK (storeV 1 x4 t107 g) fun g =>
  
  retC Try.prog [.cell 4 4] [(4, x4)] g K) ∧ True)) ∧ True)) (
  gdV t96 true (lenL Try.prog 103 undefL g) fun t103 =>
  ((gd t96 true g (fun K => Ok Try.prog 31 [t98, t103] g K) fun t104 g =>
  
  gdV t96 true (lenL Try.prog 50 t104 g) fun t105 =>
  gdV t96 true (binL Try.prog .eql 3 true t105 (.int .i64 (0))) fun t106 =>
  vK (pickL t96 t106 (.bool false)) fun t107 =>
  ((gK (storeV 1 x4 t107 g) fun g =>
  
  retC Try.prog [.cell 4 4] [(4, x4)] g K) ∧ True)) ∧ True)))) ∧ True)) ∧ True)) ∧ True))) ∧ True)) (
  ((gd t77 true g (fun K => Ok Try.prog 32 [t79] g K) fun t80 g =>
  
  ((gd t77 true g (fun K => Ok Try.prog 51 [t80, undefL] g K) fun t85 g =>
  
  vK (pickL t77 t85 (.bool false)) fun t86 =>
  gdV t86 true (some x0) fun t88 =>
  ((gd t86 true g (fun K => Ok Try.prog 28 [t88] g K) fun t89 g =>
  
  vK (pickL t86 t89 (.bool false)) fun t90 =>
  gdV t90 true (some x0) fun t92 =>
  ((gd t90 true g (fun K => Ok Try.prog 31 [t92, (.int .i64 (-1))] g K) fun t93 g =>
  
  gdV t90 true (lenL Try.prog 50 t93 g) fun t94 =>
  gdV t90 true (binL Try.prog .eql 3 true t94 (.int .i64 (0))) fun t95 =>
  vK (pickL t90 t95 (.bool false)) fun t96 =>
  gdV t96 true (some x0) fun t98 =>
  gdD t96 true (loadV none x3 g) (fun t99 =>
  gdV t96 true (nilCheckL t99) fun t100 =>
  gdV t96 true (fieldAddrL 2 t100) fun t101 =>
  gdD t96 true (loadV none t101 g) (fun t102 =>
  gdV t96 true (lenL Try.prog 103 t102 g) fun t103 =>
  ((gd t96 true g (fun K => Ok Try.prog 31 [t98, t103] g K) fun t104 g =>
  
  gdV t96 true (lenL Try.prog 50 t104 g) fun t105 =>
  gdV t96 true (binL Try.prog .eql 3 true t105 (.int .i64 (0))) fun t106 =>
  vK (pickL t96 t106 (.bool false)) fun t107 =>
  ((gK (storeV 1 x4 t107 g) fun g =>
  
  retC Try.prog [.cell 4 4] [(4, x4)] g K) ∧ True)) ∧ True)) (
  gdV t96 true (lenL Try.prog 103 undefL g) fun t103 =>
  ((gd t96 true g (fun K => Ok Try.prog 31 [t98, t103] g K) fun t104 g =>
  
  gdV t96 true (lenL Try.prog 50 t104 g) fun t105 =>
  gdV t96 true (binL Try.prog .eql 3 true t105 (.int .i64 (0))) fun t106 =>
  vK (pickL t96 t106 (.bool false)) fun t107 =>
  ((gK (storeV 1 x4 t107 g) fun g =>
  
  retC Try.prog [.cell 4 4] [(4, x4)] g K) ∧ True)) ∧ True))) (
  gdV t96 true (nilCheckL undefL) fun t100 =>
  gdV t96 true (fieldAddrL 2 t100) fun t101 =>
  gdD t96 true (loadV none t101 g) (fun t102 =>
  gdV t96 true (lenL Try.prog 103 t102 g) fun t103 =>
  ((gd t96 true g (fun K => Ok Try.prog 31 [t98, t103] g K) fun t104 g =>
  
  gdV t96 true (lenL Try.prog 50 t104 g) fun t105 =>
  gdV t96 true (binL Try.prog .eql 3 true t105 (.int .i64 (0))) fun t106 =>
  vK (pickL t96 t106 (.bool false)) fun t107 =>
  ((gK (storeV 1 x4 t107 g) fun g =>
  
  retC Try.prog [.cell 4 4] [(4, x4)] g K) ∧ True)) ∧ True)) (
  gdV t96 true (lenL Try.prog 103 undefL g) fun t103 =>
  ((gd t96 true g (fun K => Ok Try.prog 31 [t98, t103] g K) fun t104 g =>
  
  gdV t96 true (lenL Try.prog 50 t104 g) fun t105 =>
  gdV t96 true (binL Try.prog .eql 3 true t105 (.int .i64 (0))) fun t106 =>
  vK (pickL t96 t106 (.bool false)) fun t107 =>
  ((gK (storeV 1 x4 t107 g) fun g =>
  
  retC Try.prog [.cell 4 4] [(4, x4)] g K) ∧ True)) ∧ True)))) ∧ True)) ∧ True)) ∧ True)) ∧ True)))))) ∧ True))) (
  gdV t65 true (lenL Try.prog 50 undefL g) fun t73 =>
  gdD t65 true (loadV none x7 g) (fun t74 =>
  gdV t65 true (binL Try.prog .sub 3 false t73 t74) fun t75 =>
  ((gd t65 true g (fun K => Ok Try.prog 27 [t67] g K) fun t68 g =>
  ((loadV none x7 g) = some t74 ∧ ((loadV none x3 g) = some t69 ∧ 
  gdV t65 true (binL Try.prog .eql 3 false t68 t75) fun t76 =>
  vK (pickL t65 t76 (.bool false)) fun t77 =>
  gdV t77 true (some x0) fun t79 =>
  gdD t77 true (loadV none x3 g) (fun t81 =>
  gdV t77 true (nilCheckL t81) fun t82 =>
  gdV t77 true (fieldAddrL 3 t82) fun t83 =>
  gdD t77 true (loadV none t83 g) (fun t84 =>
  ((gd t77 true g (fun K => Ok Try.prog 32 [t79] g K) fun t80 g =>
  ((loadV none t83 g) = some t84 ∧ ((loadV none x3 g) = some t81 ∧ 
  ((gd t77 true g (fun K => Ok Try.prog 51 [t80, t84] g K) fun t85 g =>
  
  vK (pickL t77 t85 (.bool false)) fun t86 =>
  gdV t86 true (some x0) fun t88 =>
  ((gd t86 true g (fun K => Ok Try.prog 28 [t88] g K) fun t89 g =>
  
  vK (pickL t86 t89 (.bool false)) fun t90 =>
  gdV t90 true (some x0) fun t92 =>
  ((gd t90 true g (fun K => Ok Try.prog 31 [t92, (.int .i64 (-1))] g K) fun t93 g =>
  
  gdV t90 true (lenL Try.prog 50 t93 g) fun t94 =>
  gdV t90 true (binL Try.prog .eql 3 true t94 (.int .i64 (0))) fun t95 =>
  vK (pickL t90 t95 (.bool false)) fun t96 =>
  gdV t96 true (some x0) fun t98 =>
  gdD t96 true (loadV none x3 g) (fun t99 =>
  gdV t96 true (nilCheckL t99) fun t100 =>
  gdV t96 true (fieldAddrL 2 t100) fun t101 =>
  gdD t96 true (loadV none t101 g) (fun t102 =>
  gdV t96 true (lenL Try.prog 103 t102 g) fun t103 =>
  ((gd t96 true g (fun K => Ok Try.prog 31 [t98, t103] g K) fun t104 g =>
  
  gdV t96 true (lenL Try.prog 50 t104 g) fun t105 =>
  gdV t96 true (binL Try.prog .eql 3 true t105 (.int .i64 (0))) fun t106 =>
  vK (pickL t96 t106 (.bool false)) fun t107 =>
  ((gK (storeV 1 x4 t107 g) fun g =>
  
  retC Try.prog [.cell 4 4] [(4, x4)] g K) ∧ True)) ∧ True)) (
  gdV t96 true (lenL Try.prog 103 undefL g) fun t103 =>
  ((gd t96 true g (fun K => Ok Try.prog 31 [t98, t103] g K) fun t104 g =>
  
  gdV t96 true (lenL Try.prog 50 t104 g) fun t105 =>
  gdV t96 true (binL Try.prog .eql 3 true t105 (.int .i64 (0))) fun t106 =>
  vK (pickL t96 t106 (.bool false)) fun t107 =>
  ((gK (storeV 1 x4 t107 g) fun g =>
  
  retC Try.prog [.cell 4 4] [(4, x4)] g K) ∧ True)) ∧ True))) (
  gdV t96 true (nilCheckL undefL) fun t100 =>
  gdV t96 true (fieldAddrL 2 t100) fun t101 =>
  gdD t96 true (loadV none t101 g) (fun t102 =>
  gdV t96 true (lenL Try.prog 103 t102 g) fun t103 =>
  ((gd t96 true g (fun K => Ok Try.prog 31 [t98, t103] g K) fun t104 g =>
  
  gdV t96 true (lenL Try.prog 50 t104 g) fun t105 =>
  gdV t96 true (binL Try.prog .eql 3 true t105 (.int .i64 (0))) fun t106 =>
  vK (pickL t96 t106 (.bool false)) fun t107 =>
  ((gK (storeV 1 x4 t107 g) fun g =>
  
  retC Try.prog [.cell 4 4] [(4, x4)] g K) ∧ True)) ∧ True)) (
  gdV t96 true (lenL Try.prog 103 undefL g) fun t103 =>
  ((gd t96 true g (fun K => Ok Try.prog 31 [t98, t103] g K) fun t104 g =>
  
  gdV t96 true (lenL Try.prog 50 t104 g) fun t105 =>
  gdV t96 true (binL Try.prog .eql 3 true t105 (.int .i64 (0))) fun t106 =>
  vK (pickL t96 t106 (.bool false)) fun t107 =>
  ((gK (storeV 1 x4 t107 g) fun g =>
  
  retC Try.prog [.cell 4 4] [(4, x4)] g K) ∧ True)) ∧ True)))) ∧ True)) ∧ True)) ∧ True)))) ∧ True)) (
  ((gd t77 true g (fun K => Ok Try.prog 32 [t79] g K) fun t80 g =>
  ((loadV none x3 g) = some t81 ∧ 
  ((gd t77 true g (fun K => Ok Try.prog 51 [t80, undefL] g K) fun t85 g =>
  
  vK (pickL t77 t85 (.bool false)) fun t86 =>
  gdV t86 true (some x0) fun t88 =>
  ((gd t86 true g (fun K => Ok Try.prog 28 [t88] g K) fun t89 g =>
  
  vK (pickL t86 t89 (.bool false)) fun t90 =>
  gdV t90 true (some x0) fun t92 =>
  ((gd t90 true g (fun K => Ok Try.prog 31 [t92, (.int .i64 (-1))] g K) fun t93 g =>
  
  gdV t90 true (lenL Try.prog 50 t93 g) fun t94 =>
  gdV t90 true (binL Try.prog .eql 3 true t94 (.int .i64 (0))) fun t95 =>
  vK (pickL t90 t95 (.bool false)) fun t96 =>
  gdV t96 true (some x0) fun t98 =>
  gdD t96 true (loadV none x3 g) (fun t99 =>
  gdV t96 true (nilCheckL t99) fun t100 =>
  gdV t96 true (fieldAddrL 2 t100) fun t101 =>
  gdD t96 true (loadV none t101 g) (fun t102 =>
  gdV t96 true (lenL Try.prog 103 t102 g) fun t103 =>
  ((gd t96 true g (fun K => Ok Try.prog 31 [t98, t103] g K) fun t104 g =>
  
  gdV t96 true (lenL Try.prog 50 t104 g) fun t105 =>
  gdV t96 true (binL Try.prog .eql 3 true t105 (.int .i64 (0))) fun t106 =>
  vK (pickL t96 t106 (.bool false)) fun t107 =>
  ((gK (storeV 1 x4 t107 g) fun g =>
  
  retC Try.prog [.cell 4 4] [(4, x4)] g K) ∧ True)) ∧ True)) (
  gdV t96 true (lenL Try.prog 103 undefL g) fun t103 =>
  ((gd t96 true g (fun K => Ok Try.prog 31 [t98, t103] g K) fun t104 g =>
  
  gdV t96 true (lenL Try.prog 50 t104 g) fun t105 =>
  gdV t96 true (binL Try.prog .eql 3 true t105 (.int .i64 (0))) fun t106 =>
  vK (pickL t96 t106 (.bool false)) fun t107 =>
  ((gK (storeV 1 x4 t107 g) fun g =>
  
  retC Try.prog [.cell 4 4] [(4, x4)] g K) ∧ True)) ∧ True))) (
  gdV t96 true (nilCheckL undefL) fun t100 =>
  gdV t96 true (fieldAddrL 2 t100) fun t101 =>
  gdD t96 true (loadV none t101 g) (fun t102 =>
  gdV t96 true (lenL Try.prog 103 t102 g) fun t103 =>
  ((gd t96 true g (fun K => Ok Try.prog 31 [t98, t103] g K) fun t104 g =>
  
  gdV t96 true (lenL Try.prog 50 t104 g) fun t105 =>
  gdV t96 true (binL Try.prog .eql 3 true t105 (.int .i64 (0))) fun t106 =>
  vK (pickL t96 t106 (.bool false)) fun t107 =>
  ((gK (storeV 1 x4 t107 g) fun g =>
  
  retC Try.prog [.cell 4 4] [(4, x4)] g K) ∧ True)) ∧ True)) (
  gdV t96 true (lenL Try.prog 103 undefL g) fun t103 =>
  ((gd t96 true g (fun K => Ok Try.prog 31 [t98, t103] g K) fun t104 g =>
  
  gdV t96 true (lenL Try.prog 50 t104 g) fun t105 =>
  gdV t96 true (binL Try.prog .eql 3 true t105 (.int .i64 (0))) fun t106 =>
  vK (pickL t96 t106 (.bool false)) fun t107 =>
  ((gK (storeV 1 x4 t107 g) fun g =>
  
  retC Try.prog [.cell 4 4] [(4, x4)] g K) ∧ True)) ∧ True)))) ∧ True)) ∧ True)) ∧ True))) ∧ True))) (
  gdV t77 true (nilCheckL undefL) fun t82 =>
  gdV t77 true (fieldAddrL 3 t82) fun t83 =>
  gdD t77 true (loadV none t83 g) (fun t84 =>
  ((gd t77 true g (fun K => Ok Try.prog 32 [t79] g K) fun t80 g =>
  ((loadV none t83 g) = some t84 ∧ 
  ((gd t77 true g (fun K => Ok Try.prog 51 [t80, t84] g K) fun t85 g =>
  
  vK (pickL t77 t85 (.bool false)) fun t86 =>
  gdV t86 true (some x0) fun t88 =>
  ((gd t86 true g (fun K => Ok Try.prog 28 [t88] g K) fun t89 g =>
  
  vK (pickL t86 t89 (.bool false)) fun t90 =>
  gdV t90 true (some x0) fun t92 =>
  ((gd t90 true g (fun K => Ok Try.prog 31 [t92, (.int .i64 (-1))] g K) fun t93 g =>
  
  gdV t90 true (lenL Try.prog 50 t93 g) fun t94 =>
  gdV t90 true (binL Try.prog .eql 3 true t94 (.int .i64 (0))) fun t95 =>
  vK (pickL t90 t95 (.bool false)) fun t96 =>
  gdV t96 true (some x0) fun t98 =>
  gdD t96 true (loadV none x3 g) (fun t99 =>
  gdV t96 true (nilCheckL t99) fun t100 =>
  gdV t96 true (fieldAddrL 2 t100) fun t101 =>
  gdD t96 true (loadV none t101 g) (fun t102 =>
  gdV t96 true (lenL Try.prog 103 t102 g) fun t103 =>
  ((gd t96 true g (fun K => Ok Try.prog 31 [t98, t103] g K) fun t104 g =>
  
  gdV t96 true (lenL Try.prog 50 t104 g) fun t105 =>
  gdV t96 true (binL Try.prog .eql 3 true t105 (.int .i64 (0))) fun t106 =>
  vK (pickL t96 t106 (.bool false)) fun t107 =>
  ((gK (storeV 1 x4 t107 g) fun g =>
  
  retC Try.prog [.cell 4 4] [(4, x4)] g K) ∧ True)) ∧ True)) (
  gdV t96 true (lenL Try.prog 103 undefL g) fun t103 =>
  ((gd t96 true g (fun K => Ok Try.prog 31 [t98, t103] g K) fun t104 g =>
  
  gdV t96 true (lenL Try.prog 50 t104 g) fun t105 =>
  gdV t96 true (binL Try.prog .eql 3 true t105 (.int .i64 (0))) fun t106 =>
  vK (pickL t96 t106 (.bool false)) fun t107 =>
  ((gK (storeV 1 x4 t107 g) fun g =>
  
  retC Try.prog [.cell 4 4] [(4, x4)] g K) ∧ True)) ∧ True))) (
  gdV t96 true (nilCheckL undefL) fun t100 =>
  gdV t96 true (fieldAddrL 2 t100) fun t101 =>
  gdD t96 true (loadV none t101 g) (fun t102 =>
  gdV t96 true (lenL Try.prog 103 t102 g) fun t103 =>
  ((gd t96 true g (fun K => Ok Try.prog 31 [t98, t103] g K) fun t104 g =>
  
  gdV t96 true (lenL Try.prog 50 t104 g) fun t105 =>
  gdV t96 true (binL Try.prog .eql 3 true t105 (.int .i64 (0))) fun t106 =>
  vK (pickL t96 t106 (.bool false)) fun t107 =>
  ((gK (storeV 1 x4 t107 g) fun g =>
  
  retC Try.prog [.cell 4 4] [(4, x4)] g K) ∧ True)) ∧ True)) (
  gdV t96 true (lenL Try.prog 103 undefL g) fun t103 =>
  ((gd t96 true g (fun K => Ok Try.prog 31 [t98, t103] g K) fun t104 g =>
  
  gdV t96 true (lenL Try.prog 50 t104 g) fun t105 =>
  gdV t96 true (binL Try.prog .eql 3 true t105 (.int .i64 (0))) fun t106 =>
  vK (pickL t96 t106 (.bool false)) fun t107 =>
  ((gK (storeV 1 x4 t107 g) fun g =>
  
  retC Try.prog [.cell 4 4] [(4, x4)] g K) ∧ True)) ∧ True)))) ∧ True)) ∧ True)) ∧ True))) ∧ True)) (
  ((gd t77 true g (fun K => Ok Try.prog 32 [t79] g K) fun t80 g =>
  
  ((gd t77 true g (fun K => Ok Try.prog 51 [t80, undefL] g K) fun t85 g =>
  
  vK (pickL t77 t85 (.bool false)) fun t86 =>
  gdV t86 true (some x0) fun t88 =>
  ((gd t86 true g (fun K => Ok Try.prog 28 [t88] g K) fun t89 g =>
  
  vK (pickL t86 t89 (.bool false)) fun t90 =>
  gdV t90 true (some x0) fun t92 =>
  ((gd t90 true g (fun K => Ok Try.prog 31 [t92, (.int .i64 (-1))] g K) fun t93 g =>
  
  gdV t90 true (lenL Try.prog 50 t93 g) fun t94 =>
  gdV t90 true (binL Try.prog .eql 3 true t94 (.int .i64 (0))) fun t95 =>
  vK (pickL t90 t95 (.bool false)) fun t96 =>
  gdV t96 true (some x0) fun t98 =>
  gdD t96 true (loadV none x3 g) (fun t99 =>
  gdV t96 true (nilCheckL t99) fun t100 =>
  gdV t96 true (fieldAddrL 2 t100) fun t101 =>
  gdD t96 true (loadV none t101 g) (fun t102 =>
  gdV t96 true (lenL Try.prog 103 t102 g) fun t103 =>
  ((gd t96 true g (fun K => Ok Try.prog 31 [t98, t103] g K) fun t104 g =>
  
  gdV t96 true (lenL Try.prog 50 t104 g) fun t105 =>
  gdV t96 true (binL Try.prog .eql 3 true t105 (.int .i64 (0))) fun t106 =>
  vK (pickL t96 t106 (.bool false)) fun t107 =>
  ((gK (storeV 1 x4 t107 g) fun g =>
  
  retC Try.prog [.cell 4 4] [(4, x4)] g K) ∧ True)) ∧ True)) (
  gdV t96 true (lenL Try.prog 103 undefL g) fun t103 =>
  ((gd t96 true g (fun K => Ok Try.prog 31 [t98, t103] g K) fun t104 g =>
  
  gdV t96 true (lenL Try.prog 50 t104 g) fun t105 =>
  gdV t96 true (binL Try.prog .eql 3 true t105 (.int .i64 (0))) fun t106 =>
  vK (pickL t96 t106 (.bool false)) fun t107 =>
  ((gK (storeV 1 x4 t107 g) fun g =>
  
  retC Try.prog [.cell 4 4] [(4, x4)] g K) ∧ True)) ∧ True))) (
  gdV t96 true (nilCheckL undefL) fun t100 =>
  gdV t96 true (fieldAddrL 2 t100) fun t101 =>
  gdD t96 true (loadV none t101 g) (fun t102 =>
  gdV t96 true (lenL Try.prog 103 t102 g) fun t103 =>
  ((gd t96 true g (fun K => Ok Try.prog 31 [t98, t103] g K) fun t104 g =>
  
  gdV t96 true (lenL Try.prog 50 t104 g) fun t105 =>
  gdV t96 true (binL Try.prog .eql 3 true t105 (.int .i64 (0))) fun t106 =>
  vK (pickL t96 t106 (.bool false)) fun t107 =>
  ((gK (storeV 1 x4 t107 g) fun g =>
  
  retC Try.prog [.cell 4 4] [(4, x4)] g K) ∧ True)) ∧ True)) (
  gdV t96 true (lenL Try.prog 103 undefL g) fun t103 =>
  ((gd t96 true g (fun K => Ok Try.prog 31 [t98, t103] g K) fun t104 g =>
  
  gdV t96 true (lenL Try.prog 50 t104 g) fun t105 =>
  gdV t96 true (binL Try.prog .eql 3 true t105 (.int .i64 (0))) fun t106 =>
  vK (pickL t96 t106 (.bool false)) fun t107 =>
  ((gK (storeV 1 x4 t107 g) fun g =>
  
  retC Try.prog [.cell 4 4] [(4, x4)] g K) ∧ True)) ∧ True)))) ∧ True)) ∧ True)) ∧ True)) ∧ True)))))) ∧ True)) (
  gdV t65 true (binL Try.prog .sub 3 false t73 undefL) fun t75 =>
  ((gd t65 true g (fun K => Ok Try.prog 27 [t67] g K) fun t68 g =>
  ((loadV none x3 g) = some t69 ∧ 
  gdV t65 true (binL Try.prog .eql 3 false t68 t75) fun t76 =>
  vK (pickL t65 t76 (.bool false)) fun t77 =>
  gdV t77 true (some x0) fun t79 =>
  gdD t77 true (loadV none x3 g) (fun t81 =>
  gdV t77 true (nilCheckL t81) fun t82 =>
  gdV t77 true (fieldAddrL 3 t82) fun t83 =>
  gdD t77 true (loadV none t83 g) (fun t84 =>
  ((gd t77 true g (fun K => Ok Try.prog 32 [t79] g K) fun t80 g =>
  ((loadV none t83 g) = some t84 ∧ ((loadV none x3 g) = some t81 ∧ 
  ((gd t77 true g (fun K => Ok Try.prog 51 [t80, t84] g K) fun t85 g =>
  
  vK (pickL t77 t85 (.bool false)) fun t86 =>
  gdV t86 true (some x0) fun t88 =>
  ((gd t86 true g (fun K => Ok Try.prog 28 [t88] g K) fun t89 g =>
  
  vK (pickL t86 t89 (.bool false)) fun t90 =>
  gdV t90 true (some x0) fun t92 =>
  ((gd t90 true g (fun K => Ok Try.prog 31 [t92, (.int .i64 (-1))] g K) fun t93 g =>
  
  gdV t90 true (lenL Try.prog 50 t93 g) fun t94 =>
  gdV t90 true (binL Try.prog .eql 3 true t94 (.int .i64 (0))) fun t95 =>
  vK (pickL t90 t95 (.bool false)) fun t96 =>
  gdV t96 true (some x0) fun t98 =>
  gdD t96 true (loadV none x3 g) (fun t99 =>
  gdV t96 true (nilCheckL t99) fun t100 =>
  gdV t96 true (fieldAddrL 2 t100) fun t101 =>
  gdD t96 true (loadV none t101 g) (fun t102 =>
  gdV t96 true (lenL Try.prog 103 t102 g) fun t103 =>
  ((gd t96 true g (fun K => Ok Try.prog 31 [t98, t103] g K) fun t104 g =>
  
  gdV t96 true (lenL Try.prog 50 t104 g) fun t105 =>
  gdV t96 true (binL Try.prog .eql 3 true t105 (.int .i64 (0))) fun t106 =>
  vK (pickL t96 t106 (.bool false)) fun t107 =>
  ((gK (storeV 1 x4 t107 g) fun g =>
  
  retC Try.prog [.cell 4 4] [(4, x4)] g K) ∧ True)) ∧ True)) (
  gdV t96 true (lenL Try.prog 103 undefL g) fun t103 =>
  ((gd t96 true g (fun K => Ok Try.prog 31 [t98, t103] g K) fun t104 g =>
  
  gdV t96 true (lenL Try.prog 50 t104 g) fun t105 =>
  gdV t96 true (binL Try.prog .eql 3 true t105 (.int .i64 (0))) fun t106 =>
  vK (pickL t96 t106 (.bool false)) fun t107 =>
  ((gK (storeV 1 x4 t107 g) fun g =>
  
  retC Try.prog [.cell 4 4] [(4, x4)] g K) ∧ True)) ∧ True))) (
  gdV t96 true (nilCheckL undefL) fun t100 =>
  gdV t96 true (fieldAddrL 2 t100) fun t101 =>
  gdD t96 true (loadV none t101 g) (fun t102 =>
  gdV t96 true (lenL Try.prog 103 t102 g) fun t103 =>
  ((gd t96 true g (fun K => Ok Try.prog 31 [t98, t103] g K) fun t104 g =>
  
  gdV t96 true (lenL Try.prog 50 t104 g) fun t105 =>
  gdV t96 true (binL Try.prog .eql 3 true t105 (.int .i64 (0))) fun t106 =>
  vK (pickL t96 t106 (.bool false)) fun t107 =>
  ((gK (storeV 1 x4 t107 g) fun g =>
  
  retC Try.prog [.cell 4 4] [(4, x4)] g K) ∧ True)) ∧ True)) (
  gdV t96 true (lenL Try.prog 103 undefL g) fun t103 =>
  ((gd t96 true g (fun K => Ok Try.prog 31 [t98, t103] g K) fun t104 g =>
  
  gdV t96 true (lenL Try.prog 50 t104 g) fun t105 =>
  gdV t96 true (binL Try.prog .eql 3 true t105 (.int .i64 (0))) fun t106 =>
  vK (pickL t96 t106 (.bool false)) fun t107 =>
  ((gK (storeV 1 x4 t107 g) fun g =>
  
  retC Try.prog [.cell 4 4] [(4, x4)] g K) ∧ True)) ∧ True)))) ∧ True)) ∧ True)) ∧ True)))) ∧ True)) (
  ((gd t77 true g (fun K => Ok Try.prog 32 [t79] g K) fun t80 g =>
  ((loadV none x3 g) = some t81 ∧ 
  ((gd t77 true g (fun K => Ok Try.prog 51 [t80, undefL] g K) fun t85 g =>
  
  vK (pickL t77 t85 (.bool false)) fun t86 =>
  gdV t86 true (some x0) fun t88 =>
  ((gd t86 true g (fun K => Ok Try.prog 28 [t88] g K) fun t89 g =>
  
  vK (pickL t86 t89 (.bool false)) fun t90 =>
  gdV t90 true (some x0) fun t92 =>
  ((gd t90 true g (fun K => Ok Try.prog 31 [t92, (.int .i64 (-1))] g K) fun t93 g =>
  
  gdV t90 true (lenL Try.prog 50 t93 g) fun t94 =>
  gdV t90 true (binL Try.prog .eql 3 true t94 (.int .i64 (0))) fun t95 =>
  vK (pickL t90 t95 (.bool false)) fun t96 =>
  gdV t96 true (some x0) fun t98 =>
  gdD t96 true (loadV none x3 g) (fun t99 =>
  gdV t96 true (nilCheckL t99) fun t100 =>
  gdV t96 true (fieldAddrL 2 t100) fun t101 =>
  gdD t96 true (loadV none t101 g) (fun t102 =>
  gdV t96 true (lenL Try.prog 103 t102 g) fun t103 =>
  ((gd t96 true g (fun K => Ok Try.prog 31 [t98, t103] g K) fun t104 g =>
  
  gdV t96 true (lenL Try.prog 50 t104 g) fun t105 =>
  gdV t96 true (binL Try.prog .eql 3 true t105 (.int .i64 (0))) fun t106 =>
  vK (pickL t96 t106 (.bool false)) fun t107 =>
  ((gK (storeV 1 x4 t107 g) fun g =>
  
  retC Try.prog [.cell 4 4] [(4, x4)] g K) ∧ True)) ∧ True)) (
  gdV t96 true (lenL Try.prog 103 undefL g) fun t103 =>
  ((gd t96 true g (fun K => Ok Try.prog 31 [t98, t103] g K) fun t104 g =>
  
  gdV t96 true (lenL Try.prog 50 t104 g) fun t105 =>
  gdV t96 true (binL Try.prog .eql 3 true t105 (.int .i64 (0))) fun t106 =>
  vK (pickL t96 t106 (.bool false)) fun t107 =>
  ((gK (storeV 1 x4 t107 g) fun g =>
  
  retC Try.prog [.cell 4 4] [(4, x4)] g K) ∧ True)) ∧ True))) (
  gdV t96 true (nilCheckL undefL) fun t100 =>
  gdV t96 true (fieldAddrL 2 t100) fun t101 =>
  gdD t96 true (loadV none t101 g) (fun t102 =>
  gdV t96 true (lenL Try.prog 103 t102 g) fun t103 =>
  ((gd t96 true g (fun K => Ok Try.prog 31 [t98, t103] g K) fun t104 g =>
  
  gdV t96 true (lenL Try.prog 50 t104 g) fun t105 =>
  gdV t96 true (binL Try.prog .eql 3 true t105 (.int .i64 (0))) fun t106 =>
  vK (pickL t96 t106 (.bool false)) fun t107 =>
  ((gK (storeV 1 x4 t107 g) fun g =>
  
  retC Try.prog [.cell 4 4] [(4, x4)] g K) ∧ True)) ∧ True)) (
  gdV t96 true (lenL Try.prog 103 undefL g) fun t103 =>
  ((gd t96 true g (fun K => Ok Try.prog 31 [t98, t103] g K) fun t104 g =>
  
  gdV t96 true (lenL Try.prog 50 t104 g) fun t105 =>
  gdV t96 true (binL Try.prog .eql 3 true t105 (.int .i64 (0))) fun t106 =>
  vK (pickL t96 t106 (.bool false)) fun t107 =>
  ((gK (storeV 1 x4 t107 g) fun g =>
  
  retC Try.prog [.cell 4 4] [(4, x4)] g K) ∧ True)) ∧ True)))) ∧ True)) ∧ True)) ∧ True))) ∧ True))) (
  gdV t77 true (nilCheckL undefL) fun t82 =>
  gdV t77 true (fieldAddrL 3 t82) fun t83 =>
  gdD t77 true (loadV none t83 g) (fun t84 =>
  ((gd t77 true g (fun K => Ok Try.prog 32 [t79] g K) fun t80 g =>
  ((loadV none t83 g) = some t84 ∧ 
  ((gd t77 true g (fun K => Ok Try.prog 51 [t80, t84] g K) fun t85 g =>
  
  vK (pickL t77 t85 (.bool false)) fun t86 =>
  gdV t86 true (some x0) fun t88 =>
  ((gd t86 true g (fun K => Ok Try.prog 28 [t88] g K) fun t89 g =>
  
  vK (pickL t86 t89 (.bool false)) fun t90 =>
  gdV t90 true (some x0) fun t92 =>
  ((gd t90 true g (fun K => Ok Try.prog 31 [t92, (.int .i64 (-1))] g K) fun t93 g =>
  
  gdV t90 true (lenL Try.prog 50 t93 g) fun t94 =>
  gdV t90 true (binL Try.prog .eql 3 true t94 (.int .i64 (0))) fun t95 =>
  vK (pickL t90 t95 (.bool false)) fun t96 =>
  gdV t96 true (some x0) fun t98 =>
  gdD t96 true (loadV none x3 g) (fun t99 =>
  gdV t96 true (nilCheckL t99) fun t100 =>
  gdV t96 true (fieldAddrL 2 t100) fun t101 =>
  gdD t96 true (loadV none t101 g) (fun t102 =>
  gdV t96 true (lenL Try.prog 103 t102 g) fun t103 =>
  ((gd t96 true g (fun K => Ok Try.prog 31 [t98, t103] g K) fun t104 g =>
  
  gdV t96 true (lenL Try.prog 50 t104 g) fun t105 =>
  gdV t96 true (binL Try.prog .eql 3 true t105 (.int .i64 (0))) fun t106 =>
  vK (pickL t96 t106 (.bool false)) fun t107 =>
  ((gK (storeV 1 x4 t107 g) fun g =>
  
  retC Try.prog [.cell 4 4] [(4, x4)] g K) ∧ True)) ∧ True)) (
  gdV t96 true (lenL Try.prog 103 undefL g) fun t103 =>
  ((gd t96 true g (fun K => Ok Try.prog 31 [t98, t103] g K) fun t104 g =>
  
  gdV t96 true (lenL Try.prog 50 t104 g) fun t105 =>
  gdV t96 true (binL Try.prog .eql 3 true t105 (.int .i64 (0))) fun t106 =>
  vK (pickL t96 t106 (.bool false)) fun t107 =>
  ((gK (storeV 1 x4 t107 g) fun g =>
  
  retC Try.prog [.cell 4 4] [(4, x4)] g K) ∧ True)) ∧ True))) (
  gdV t96 true (nilCheckL undefL) fun t100 =>
  gdV t96 true (fieldAddrL 2 t100) fun t101 =>
  gdD t96 true (loadV none t101 g) (fun t102 =>
  gdV t96 true (lenL Try.prog 103 t102 g) fun t103 =>
  ((gd t96 true g (fun K => Ok Try.prog 31 [t98, t103] g K) fun t104 g =>
  
  gdV t96 true (lenL Try.prog 50 t104 g) fun t105 =>
  gdV t96 true (binL Try.prog .eql 3 true t105 (.int .i64 (0))) fun t106 =>
  vK (pickL t96 t106 (.bool false)) fun t107 =>
  ((gK (storeV 1 x4 t107 g) fun g =>
  
  retC Try.prog [.cell 4 4] [(4, x4)] g K) ∧ True)) ∧ True)) (
  gdV t96 true (lenL Try.prog 103 undefL g) fun t103 =>
  ((gd t96 true g (fun K => Ok Try.prog 31 [t98, t103] g K) fun t104 g =>
  
  gdV t96 true (lenL Try.prog 50 t104 g) fun t105 =>
  gdV t96 true (binL Try.prog .eql 3 true t105 (.int .i64 (0))) fun t106 =>
  vK (pickL t96 t106 (.bool false)) fun t107 =>
  ((gK (storeV 1 x4 t107 g) fun g =>
  
  retC Try.prog [.cell 4 4] [(4, x4)] g K) ∧ True)) ∧ True)))) ∧ True)) ∧ True)) ∧ True))) ∧ True)) (
  ((gd t77 true g (fun K => Ok Try.prog 32 [t79] g K) fun t80 g =>
  
  ((gd t77 true g (fun K => Ok Try.prog 51 [t80, undefL] g K) fun t85 g =>
  
  vK (pickL t77 t85 (.bool false)) fun t86 =>
  gdV t86 true (some x0) fun t88 =>
  ((gd t86 true g (fun K => Ok Try.prog 28 [t88] g K) fun t89 g =>
  
  vK (pickL t86 t89 (.bool false)) fun t90 =>
  gdV t90 true (some x0) fun t92 =>
  ((gd t90 true g (fun K => Ok Try.prog 31 [t92, (.int .i64 (-1))] g K) fun t93 g =>
  
  gdV t90 true (lenL Try.prog 50 t93 g) fun t94 =>
  gdV t90 true (binL Try.prog .eql 3 true t94 (.int .i64 (0))) fun t95 =>
  vK (pickL t90 t95 (.bool false)) fun t96 =>
  gdV t96 true (some x0) fun t98 =>
  gdD t96 true (loadV none x3 g) (fun t99 =>
  gdV t96 true (nilCheckL t99) fun t100 =>
  gdV t96 true (fieldAddrL 2 t100) fun t101 =>
  gdD t96 true (loadV none t101 g) (fun t102 =>
  gdV t96 true (lenL Try.prog 103 t102 g) fun t103 =>
  ((gd t96 true g (fun K => Ok Try.prog 31 [t98, t103] g K) fun t104 g =>
  
  gdV t96 true (lenL Try.prog 50 t104 g) fun t105 =>
  gdV t96 true (binL Try.prog .eql 3 true t105 (.int .i64 (0))) fun t106 =>
  vK (pickL t96 t106 (.bool false)) fun t107 =>
  ((gK (storeV 1 x4 t107 g) fun g =>
  
  retC Try.prog [.cell 4 4] [(4, x4)] g K) ∧ True)) ∧ True)) (
  gdV t96 true (lenL Try.prog 103 undefL g) fun t103 =>
  ((gd t96 true g (fun K => Ok Try.prog 31 [t98, t103] g K) fun t104 g =>
  
  gdV t96 true (lenL Try.prog 50 t104 g) fun t105 =>
  gdV t96 true (binL Try.prog .eql 3 true t105 (.int .i64 (0))) fun t106 =>
  vK (pickL t96 t106 (.bool false)) fun t107 =>
  ((gK (storeV 1 x4 t107 g) fun g =>
  
  retC Try.prog [.cell 4 4] [(4, x4)] g K) ∧ True)) ∧ True))) (
  gdV t96 true (nilCheckL undefL) fun t100 =>
  gdV t96 true (fieldAddrL 2 t100) fun t101 =>
  gdD t96 true (loadV none t101 g) (fun t102 =>
  gdV t96 true (lenL Try.prog 103 t102 g) fun t103 =>
  ((gd t96 true g (fun K => Ok Try.prog 31 [t98, t103] g K) fun t104 g =>
  
  gdV t96 true (lenL Try.prog 50 t104 g) fun t105 =>
  gdV t96 true (binL Try.prog .eql 3 true t105 (.int .i64 (0))) fun t106 =>
  vK (pickL t96 t106 (.bool false)) fun t107 =>
  ((gK (storeV 1 x4 t107 g) fun g =>
  
  retC Try.prog [.cell 4 4] [(4, x4)] g K) ∧ True)) ∧ True)) (
  gdV t96 true (lenL Try.prog 103 undefL g) fun t103 =>
  ((gd t96 true g (fun K => Ok Try.prog 31 [t98, t103] g K) fun t104 g =>
  
  gdV t96 true (lenL Try.prog 50 t104 g) fun t105 =>
  gdV t96 true (binL Try.prog .eql 3 true t105 (.int .i64 (0))) fun t106 =>
  vK (pickL t96 t106 (.bool false)) fun t107 =>
  ((gK (storeV 1 x4 t107 g) fun g =>
  
  retC Try.prog [.cell 4 4] [(4, x4)] g K) ∧ True)) ∧ True)))) ∧ True)) ∧ True)) ∧ True)) ∧ True))))) ∧ True)))) (
  gdV t65 true (nilCheckL undefL) fun t70 =>
  gdV t65 true (fieldAddrL 1 t70) fun t71 =>
  gdD t65 true (loadV none t71 g) (fun t72 =>
  gdV t65 true (lenL Try.prog 50 t72 g) fun t73 =>
  gdD t65 true (loadV none x7 g) (fun t74 =>
  gdV t65 true (binL Try.prog .sub 3 false t73 t74) fun t75 =>
  ((gd t65 true g (fun K => Ok Try.prog 27 [t67] g K) fun t68 g =>
  ((loadV none x7 g) = some t74 ∧ ((loadV none t71 g) = some t72 ∧ 
  gdV t65 true (binL Try.prog .eql 3 false t68 t75) fun t76 =>
  vK (pickL t65 t76 (.bool false)) fun t77 =>
  gdV t77 true (some x0) fun t79 =>
  gdD t77 true (loadV none x3 g) (fun t81 =>
  gdV t77 true (nilCheckL t81) fun t82 =>
  gdV t77 true (fieldAddrL 3 t82) fun t83 =>
  gdD t77 true (loadV none t83 g) (fun t84 =>
  ((gd t77 true g (fun K => Ok Try.prog 32 [t79] g K) fun t80 g =>
  ((loadV none t83 g) = some t84 ∧ ((loadV none x3 g) = some t81 ∧ 
  ((gd t77 true g (fun K => Ok Try.prog 51 [t80, t84] g K) fun t85 g =>
  
  vK (pickL t77 t85 (.bool false)) fun t86 =>
  gdV t86 true (some x0) fun t88 =>
  ((gd t86 true g (fun K => Ok Try.prog 28 [t88] g K) fun t89 g =>
  
  vK (pickL t86 t89 (.bool false)) fun t90 =>
  gdV t90 true (some x0) fun t92 =>
  ((gd t90 true g (fun K => Ok Try.prog 31 [t92, (.int .i64 (-1))] g K) fun t93 g =>
  
  gdV t90 true (lenL Try.prog 50 t93 g) fun t94 =>
  gdV t90 true (binL Try.prog .eql 3 true t94 (.int .i64 (0))) fun t95 =>
  vK (pickL t90 t95 (.bool false)) fun t96 =>
  gdV t96 true (some x0) fun t98 =>
  gdD t96 true (loadV none x3 g) (fun t99 =>
  gdV t96 true (nilCheckL t99) fun t100 =>
  gdV t96 true (fieldAddrL 2 t100) fun t101 =>
  gdD t96 true (loadV none t101 g) (fun t102 =>
  gdV t96 true (lenL Try.prog 103 t102 g) fun t103 =>
  ((gd t96 true g (fun K => Ok Try.prog 31 [t98, t103] g K) fun t104 g =>
  
  gdV t96 true (lenL Try.prog 50 t104 g) fun t105 =>
  gdV t96 true (binL Try.prog .eql 3 true t105 (.int .i64 (0))) fun t106 =>
  vK (pickL t96 t106 (.bool false)) fun t107 =>
  ((gK (storeV 1 x4 t107 g) fun g =>
  
  retC Try.prog [.cell 4 4] [(4, x4)] g K) ∧ True)) ∧ True)) (
  gdV t96 true (lenL Try.prog 103 undefL g) fun t103 =>
  ((gd t96 true g (fun K => Ok Try.prog 31 [t98, t103] g K) fun t104 g =>
  
  gdV t96 true (lenL Try.prog 50 t104 g) fun t105 =>
  gdV t96 true (binL Try.prog .eql 3 true t105 (.int .i64 (0))) fun t106 =>
  vK (pickL t96 t106 (.bool false)) fun t107 =>
  ((gK (storeV 1 x4 t107 g) fun g =>
  
  retC Try.prog [.cell 4 4] [(4, x4)] g K) ∧ True)) ∧ True))) (
  gdV t96 true (nilCheckL undefL) fun t100 =>
  gdV t96 true (fieldAddrL 2 t100) fun t101 =>
  gdD t96 true (loadV none t101 g) (fun t102 =>
  gdV t96 true (lenL Try.prog 103 t102 g) fun t103 =>
  ((gd t96 true g (fun K => Ok Try.prog 31 [t98, t103] g K) fun t104 g =>
  
  gdV t96 true (lenL Try.prog 50 t104 g) fun t105 =>
  gdV t96 true (binL Try.prog .eql 3 true t105 (.int .i64 (0))) fun t106 =>
  vK (pickL t96 t106 (.bool false)) fun t107 =>
  ((gK (storeV 1 x4 t107 g) fun g =>
  
  retC Try.prog [.cell 4 4] [(4, x4)] g K) ∧ True)) ∧ True)) (
  gdV t96 true (lenL Try.prog 103 undefL g) fun t103 =>
  ((gd t96 true g (fun K => Ok Try.prog 31 [t98, t103] g K) fun t104 g =>
  
  gdV t96 true (lenL Try.prog 50 t104 g) fun t105 =>
  gdV t96 true (binL Try.prog .eql 3 true t105 (.int .i64 (0))) fun t106 =>
  vK (pickL t96 t106 (.bool false)) fun t107 =>
  ((gK (storeV 1 x4 t107 g) fun g =>
  
  retC Try.prog [.cell 4 4] [(4, x4)] g K) ∧ True)) ∧ True)))) ∧ True)) ∧ True)) ∧ True)))) ∧ True)) (
  ((gd t77 true g (fun K => Ok Try.prog 32 [t79] g K) fun t80 g =>
  ((loadV none x3 g) = some t81 ∧ 
  ((gd t77 true g (fun K => Ok Try.prog 51 [t80, undefL] g K) fun t85 g =>
  
  vK (pickL t77 t85 (.bool false)) fun t86 =>
  gdV t86 true (some x0) fun t88 =>
  ((gd t86 true g (fun K => Ok Try.prog 28 [t88] g K) fun t89 g =>
  
  vK (pickL t86 t89 (.bool false)) fun t90 =>
  gdV t90 true (some x0) fun t92 =>
  ((gd t90 true g (fun K => Ok Try.prog 31 [t92, (.int .i64 (-1))] g K) fun t93 g =>
  
  gdV t90 true (lenL Try.prog 50 t93 g) fun t94 =>
  gdV t90 true (binL Try.prog .eql 3 true t94 (.int .i64 (0))) fun t95 =>
  vK (pickL t90 t95 (.bool false)) fun t96 =>
  gdV t96 true (some x0) fun t98 =>
  gdD t96 true (loadV none x3 g) (fun t99 =>
  gdV t96 true (nilCheckL t99) fun t100 =>
  gdV t96 true (fieldAddrL 2 t100) fun t101 =>
  gdD t96 true (loadV none t101 g) (fun t102 =>
  gdV t96 true (lenL Try.prog 103 t102 g) fun t103 =>
  ((gd t96 true g (fun K => Ok Try.prog 31 [t98, t103] g K) fun t104 g =>
  
  gdV t96 true (lenL Try.prog 50 t104 g) fun t105 =>
  gdV t96 true (binL Try.prog .eql 3 true t105 (.int .i64 (0))) fun t106 =>
  vK (pickL t96 t106 (.bool false)) fun t107 =>
  ((gK (storeV 1 x4 t107 g) fun g =>
  
  retC Try.prog [.cell 4 4] [(4, x4)] g K) ∧ True)) ∧ True)) (
  gdV t96 true (lenL Try.prog 103 undefL g) fun t103 =>
  ((gd t96 true g (fun K => Ok Try.prog 31 [t98, t103] g K) fun t104 g =>
  
  gdV t96 true (lenL Try.prog 50 t104 g) fun t105 =>
  gdV t96 true (binL Try.prog .eql 3 true t105 (.int .i64 (0))) fun t106 =>
  vK (pickL t96 t106 (.bool false)) fun t107 =>
  ((gK (storeV 1 x4 t107 g) fun g =>
  
  retC Try.prog [.cell 4 4] [(4, x4)] g K) ∧ True)) ∧ True))) (
  gdV t96 true (nilCheckL undefL) fun t100 =>
  gdV t96 true (fieldAddrL 2 t100) fun t101 =>
  gdD t96 true (loadV none t101 g) (fun t102 =>
  gdV t96 true (lenL Try.prog 103 t102 g) fun t103 =>
  ((gd t96 true g (fun K => Ok Try.prog 31 [t98, t103] g K) fun t104 g =>
  
  gdV t96 true (lenL Try.prog 50 t104 g) fun t105 =>
  gdV t96 true (binL Try.prog .eql 3 true t105 (.int .i64 (0))) fun t106 =>
  vK (pickL t96 t106 (.bool false)) fun t107 =>
  ((gK (storeV 1 x4 t107 g) fun g =>
  
  retC Try.prog [.cell 4 4] [(4, x4)] g K) ∧ True)) ∧ True)) (
  gdV t96 true (lenL Try.prog 103 undefL g) fun t103 =>
  ((gd t96 true g (fun K => Ok Try.prog 31 [t98, t103] g K) fun t104 g =>
  
  gdV t96 true (lenL Try.prog 50 t104 g) fun t105 =>
  gdV t96 true (binL Try.prog .eql 3 true t105 (.int .i64 (0))) fun t106 =>
  vK (pickL t96 t106 (.bool false)) fun t107 =>
  ((gK (storeV 1 x4 t107 g) fun g =>
  
  retC Try.prog [.cell 4 4] [(4, x4)] g K) ∧ True)) ∧ True)))) ∧ True)) ∧ True)) ∧ True))) ∧ True))) (
  gdV t77 true (nilCheckL undefL) fun t82 =>
  gdV t77 true (fieldAddrL 3 t82) fun t83 =>
  gdD t77 true (loadV none t83 g) (fun t84 =>
  ((gd t77 true g (fun K => Ok Try.prog 32 [t79] g K) fun t80 g =>
  ((loadV none t83 g) = some t84 ∧ 
  ((gd t77 true g (fun K => Ok Try.prog 51 [t80, t84] g K) fun t85 g =>
  
  vK (pickL t77 t85 (.bool false)) fun t86 =>
  gdV t86 true (some x0) fun t88 =>
  ((gd t86 true g (fun K => Ok Try.prog 28 [t88] g K) fun t89 g =>
  
  vK (pickL t86 t89 (.bool false)) fun t90 =>
  gdV t90 true (some x0) fun t92 =>
  ((gd t90 true g (fun K => Ok Try.prog 31 [t92, (.int .i64 (-1))] g K) fun t93 g =>
  
  gdV t90 true (lenL Try.prog 50 t93 g) fun t94 =>
  gdV t90 true (binL Try.prog .eql 3 true t94 (.int .i64 (0))) fun t95 =>
  vK (pickL t90 t95 (.bool false)) fun t96 =>
  gdV t96 true (some x0) fun t98 =>
  gdD t96 true (loadV none x3 g) (fun t99 =>
  gdV t96 true (nilCheckL t99) fun t100 =>
  gdV t96 true (fieldAddrL 2 t100) fun t101 =>
  gdD t96 true (loadV none t101 g) (fun t102 =>
  gdV t96 true (lenL Try.prog 103 t102 g) fun t103 =>
  ((gd t96 true g (fun K => Ok Try.prog 31 [t98, t103] g K) fun t104 g =>
  
  gdV t96 true (lenL Try.prog 50 t104 g) fun t105 =>
  gdV t96 true (binL Try.prog .eql 3 true t105 (.int .i64 (0))) fun t106 =>
  vK (pickL t96 t106 (.bool false)) fun t107 =>
  ((gK (storeV 1 x4 t107 g) fun g =>
  
  retC Try.prog [.cell 4 4] [(4, x4)] g K) ∧ True)) ∧ True)) (
  gdV t96 true (lenL Try.prog 103 undefL g) fun t103 =>
  ((gd t96 true g (fun K => Ok Try.prog 31 [t98, t103] g K) fun t104 g =>
  
  gdV t96 true (lenL Try.prog 50 t104 g) fun t105 =>
  gdV t96 true (binL Try.prog .eql 3 true t105 (.int .i64 (0))) fun t106 =>
  vK (pickL t96 t106 (.bool false)) fun t107 =>
  ((gK (storeV 1 x4 t107 g) fun g =>
  
  retC Try.prog [.cell 4 4] [(4, x4)] g K) ∧ True)) ∧ True))) (
  gdV t96 true (nilCheckL undefL) fun t100 =>
  gdV t96 true (fieldAddrL 2 t100) fun t101 =>
  gdD t96 true (loadV none t101 g) (fun t102 =>
  gdV t96 true (lenL Try.prog 103 t102 g) fun t103 =>
  ((gd t96 true g (fun K => Ok Try.prog 31 [t98, t103] g K) fun t104 g =>
  
  gdV t96 true (lenL Try.prog 50 t104 g) fun t105 =>
  gdV t96 true (binL Try.prog .eql 3 true t105 (.int .i64 (0))) fun t106 =>
  vK (pickL t96 t106 (.bool false)) fun t107 =>
  ((gK (storeV 1 x4 t107 g) fun g =>
  
  retC Try.prog [.cell 4 4] [(4, x4)] g K) ∧ True)) ∧ True)) (
  gdV t96 true (lenL Try.prog 103 undefL g) fun t103 =>
  ((gd t96 true g (fun K => Ok Try.prog 31 [t98, t103] g K) fun t104 g =>
  
  gdV t96 true (lenL Try.prog 50 t104 g) fun t105 =>
  gdV t96 true (binL Try.prog .eql 3 true t105 (.int .i64 (0))) fun t106 =>
  vK (pickL t96 t106 (.bool false)) fun t107 =>
  ((gK (storeV 1 x4 t107 g) fun g =>
  
  retC Try.prog [.cell 4 4] [(4, x4)] g K) ∧ True)) ∧ True)))) ∧ True)) ∧ True)) ∧ True))) ∧ True)) (
  ((gd t77 true g (fun K => Ok Try.prog 32 [t79] g K) fun t80 g =>
  
  ((gd t77 true g (fun K => Ok Try.prog 51 [t80, undefL] g K) fun t85 g =>
  
  vK (pickL t77 t85 (.bool false)) fun t86 =>
  gdV t86 true (some x0) fun t88 =>
  ((gd t86 true g (fun K => Ok Try.prog 28 [t88] g K) fun t89 g =>
  
  vK (pickL t86 t89 (.bool false)) fun t90 =>
  gdV t90 true (some x0) fun t92 =>
  ((gd t90 true g (fun K => Ok Try.prog 31 [t92, (.int .i64 (-1))] g K) fun t93 g =>
  
  gdV t90 true (lenL Try.prog 50 t93 g) fun t94 =>
  gdV t90 true (binL Try.prog .eql 3 true t94 (.int .i64 (0))) fun t95 =>
  vK (pickL t90 t95 (.bool false)) fun t96 =>
  gdV t96 true (some x0) fun t98 =>
  gdD t96 true (loadV none x3 g) (fun t99 =>
  gdV t96 true (nilCheckL t99) fun t100 =>
  gdV t96 true (fieldAddrL 2 t100) fun t101 =>
  gdD t96 true (loadV none t101 g) (fun t102 =>
  gdV t96 true (lenL Try.prog 103 t102 g) fun t103 =>
  ((gd t96 true g (fun K => Ok Try.prog 31 [t98, t103] g K) fun t104 g =>
  
  gdV t96 true (lenL Try.prog 50 t104 g) fun t105 =>
  gdV t96 true (binL Try.prog .eql 3 true t105 (.int .i64 (0))) fun t106 =>
  vK (pickL t96 t106 (.bool false)) fun t107 =>
  ((gK (storeV 1 x4 t107 g) fun g =>
  
  retC Try.prog [.cell 4 4] [(4, x4)] g K) ∧ True)) ∧ True)) (
  gdV t96 true (lenL Try.prog 103 undefL g) fun t103 =>
  ((gd t96 true g (fun K => Ok Try.prog 31 [t98, t103] g K) fun t104 g =>
  
  gdV t96 true (lenL Try.prog 50 t104 g) fun t105 =>
  gdV t96 true (binL Try.prog .eql 3 true t105 (.int .i64 (0))) fun t106 =>
  vK (pickL t96 t106 (.bool false)) fun t107 =>
  ((gK (storeV 1 x4 t107 g) fun g =>
  
  retC Try.prog [.cell 4 4] [(4, x4)] g K) ∧ True)) ∧ True))) (
  gdV t96 true (nilCheckL undefL) fun t100 =>
  gdV t96 true (fieldAddrL 2 t100) fun t101 =>
  gdD t96 true (loadV none t101 g) (fun t102 =>
  gdV t96 true (lenL Try.prog 103 t102 g) fun t103 =>
  ((gd t96 true g (fun K => Ok Try.prog 31 [t98, t103] g K) fun t104 g =>
  
  gdV t96 true (lenL Try.prog 50 t104 g) fun t105 =>
  gdV t96 true (binL Try.prog .eql 3 true t105 (.int .i64 (0))) fun t106 =>
  vK (pickL t96 t106 (.bool false)) fun t107 =>
  ((gK (storeV 1 x4 t107 g) fun g =>
  
  retC Try.prog [.cell 4 4] [(4, x4)] g K) ∧ True)) ∧ True)) (
  gdV t96 true (lenL Try.prog 103 undefL g) fun t103 =>
  ((gd t96 true g (fun K => Ok Try.prog 31 [t98, t103] g K) fun t104 g =>
  
  gdV t96 true (lenL Try.prog 50 t104 g) fun t105 =>
  gdV t96 true (binL Try.prog .eql 3 true t105 (.int .i64 (0))) fun t106 =>
  vK (pickL t96 t106 (.bool false)) fun t107 =>
  ((gK (storeV 1 x4 t107 g) fun g =>
  
  retC Try.prog [.cell 4 4] [(4, x4)] g K) ∧ True)) ∧ True)))) ∧ True)) ∧ True)) ∧ True)) ∧ True)))))) ∧ True)) (
  gdV t65 true (binL Try.prog .sub 3 false t73 undefL) fun t75 =>
  ((gd t65 true g (fun K => Ok Try.prog 27 [t67] g K) fun t68 g =>
  ((loadV none t71 g) = some t72 ∧ 
  gdV t65 true (binL Try.prog .eql 3 false t68 t75) fun t76 =>
  vK (pickL t65 t76 (.bool false)) fun t77 =>
  gdV t77 true (some x0) fun t79 =>
  gdD t77 true (loadV none x3 g) (fun t81 =>
  gdV t77 true (nilCheckL t81) fun t82 =>
  gdV t77 true (fieldAddrL 3 t82) fun t83 =>
  gdD t77 true (loadV none t83 g) (fun t84 =>
  ((gd t77 true g (fun K => Ok Try.prog 32 [t79] g K) fun t80 g =>
  ((loadV none t83 g) = some t84 ∧ ((loadV none x3 g) = some t81 ∧ 
  ((gd t77 true g (fun K => Ok Try.prog 51 [t80, t84] g K) fun t85 g =>
  
  vK (pickL t77 t85 (.bool false)) fun t86 =>
  gdV t86 true (some x0) fun t88 =>
  ((gd t86 true g (fun K => Ok Try.prog 28 [t88] g K) fun t89 g =>
  
  vK (pickL t86 t89 (.bool false)) fun t90 =>
  gdV t90 true (some x0) fun t92 =>
  ((gd t90 true g (fun K => Ok Try.prog 31 [t92, (.int .i64 (-1))] g K) fun t93 g =>
  
  gdV t90 true (lenL Try.prog 50 t93 g) fun t94 =>
  gdV t90 true (binL Try.prog .eql 3 true t94 (.int .i64 (0))) fun t95 =>
  vK (pickL t90 t95 (.bool false)) fun t96 =>
  gdV t96 true (some x0) fun t98 =>
  gdD t96 true (loadV none x3 g) (fun t99 =>
  gdV t96 true (nilCheckL t99) fun t100 =>
  gdV t96 true (fieldAddrL 2 t100) fun t101 =>
  gdD t96 true (loadV none t101 g) (fun t102 =>
  gdV t96 true (lenL Try.prog 103 t102 g) fun t103 =>
  ((gd t96 true g (fun K => Ok Try.prog 31 [t98, t103] g K) fun t104 g =>
  
  gdV t96 true (lenL Try.prog 50 t104 g) fun t105 =>
  gdV t96 true (binL Try.prog .eql 3 true t105 (.int .i64 (0))) fun t106 =>
  vK (pickL t96 t106 (.bool false)) fun t107 =>
  ((gK (storeV 1 x4 t107 g) fun g =>
  
  retC Try.prog [.cell 4 4] [(4, x4)] g K) ∧ True)) ∧ True)) (
  gdV t96 true (lenL Try.prog 103 undefL g) fun t103 =>
  ((gd t96 true g (fun K => Ok Try.prog 31 [t98, t103] g K) fun t104 g =>
  
  gdV t96 true (lenL Try.prog 50 t104 g) fun t105 =>
  gdV t96 true (binL Try.prog .eql 3 true t105 (.int .i64 (0))) fun t106 =>
  vK (pickL t96 t106 (.bool false)) fun t107 =>
  ((gK (storeV 1 x4 t107 g) fun g =>
  
  retC Try.prog [.cell 4 4] [(4, x4)] g K) ∧ True)) ∧ True))) (
  gdV t96 true (nilCheckL undefL) fun t100 =>
  gdV t96 true (fieldAddrL 2 t100) fun t101 =>
  gdD t96 true (loadV none t101 g) (fun t102 =>
  gdV t96 true (lenL Try.prog 103 t102 g) fun t103 =>
  ((gd t96 true g (fun K => Ok Try.prog 31 [t98, t103] g K) fun t104 g =>
  
  gdV t96 true (lenL Try.prog 50 t104 g) fun t105 =>
  gdV t96 true (binL Try.prog .eql 3 true t105 (.int .i64 (0))) fun t106 =>
  vK (pickL t96 t106 (.bool false)) fun t107 =>
  ((gK (storeV 1 x4 t107 g) fun g =>
  
  retC Try.prog [.cell 4 4] [(4, x4)] g K) ∧ True)) ∧ True)) (
  gdV t96 true (lenL Try.prog 103 undefL g) fun t103 =>
  ((gd t96 true g (fun K => Ok Try.prog 31 [t98, t103] g K) fun t104 g =>
  
  gdV t96 true (lenL Try.prog 50 t104 g) fun t105 =>
  gdV t96 true (binL Try.prog .eql 3 true t105 (.int .i64 (0))) fun t106 =>
  vK (pickL t96 t106 (.bool false)) fun t107 =>
  ((gK (storeV 1 x4 t107 g) fun g =>
  
  retC Try.prog [.cell 4 4] [(4, x4)] g K) ∧ True)) ∧ True)))) ∧ True)) ∧ True)) ∧ True)))) ∧ True)) (
  ((gd t77 true g (fun K => Ok Try.prog 32 [t79] g K) fun t80 g =>
  ((loadV none x3 g) = some t81 ∧ 
  ((gd t77 true g (fun K => Ok Try.prog 51 [t80, undefL] g K) fun t85 g =>
  
  vK (pickL t77 t85 (.bool false)) fun t86 =>
  gdV t86 true (some x0) fun t88 =>
  ((gd t86 true g (fun K => Ok Try.prog 28 [t88] g K) fun t89 g =>
  
  vK (pickL t86 t89 (.bool false)) fun t90 =>
  gdV t90 true (some x0) fun t92 =>
  ((gd t90 true g (fun K => Ok Try.prog 31 [t92, (.int .i64 (-1))] g K) fun t93 g =>
  
  gdV t90 true (lenL Try.prog 50 t93 g) fun t94 =>
  gdV t90 true (binL Try.prog .eql 3 true t94 (.int .i64 (0))) fun t95 =>
  vK (pickL t90 t95 (.bool false)) fun t96 =>
  gdV t96 true (some x0) fun t98 =>
  gdD t96 true (loadV none x3 g) (fun t99 =>
  gdV t96 true (nilCheckL t99) fun t100 =>
  gdV t96 true (fieldAddrL 2 t100) fun t101 =>
  gdD t96 true (loadV none t101 g) (fun t102 =>
  gdV t96 true (lenL Try.prog 103 t102 g) fun t103 =>
  ((gd t96 true g (fun K => Ok Try.prog 31 [t98, t103] g K) fun t104 g =>
  
  gdV t96 true (lenL Try.prog 50 t104 g) fun t105 =>
  gdV t96 true (binL Try.prog .eql 3 true t105 (.int .i64 (0))) fun t106 =>
  vK (pickL t96 t106 (.bool false)) fun t107 =>
  ((gK (storeV 1 x4 t107 g) fun g =>
  
  retC Try.prog [.cell 4 4] [(4, x4)] g K) ∧ True)) ∧ True)) (
  gdV t96 true (lenL Try.prog 103 undefL g) fun t103 =>
  ((gd t96 true g (fun K => Ok Try.prog 31 [t98, t103] g K) fun t104 g =>
  
  gdV t96 true (lenL Try.prog 50 t104 g) fun t105 =>
  gdV t96 true (binL Try.prog .eql 3 true t105 (.int .i64 (0))) fun t106 =>
  vK (pickL t96 t106 (.bool false)) fun t107 =>
  ((gK (storeV 1 x4 t107 g) fun g =>
  
  retC Try.prog [.cell 4 4] [(4, x4)] g K) ∧ True)) ∧ True))) (
  gdV t96 true (nilCheckL undefL) fun t100 =>
  gdV t96 true (fieldAddrL 2 t100) fun t101 =>
  gdD t96 true (loadV none t101 g) (fun t102 =>
  gdV t96 true (lenL Try.prog 103 t102 g) fun t103 =>
  ((gd t96 true g (fun K => Ok Try.prog 31 [t98, t103] g K) fun t104 g =>
  
  gdV t96 true (lenL Try.prog 50 t104 g) fun t105 =>
  gdV t96 true (binL Try.prog .eql 3 true t105 (.int .i64 (0))) fun t106 =>
  vK (pickL t96 t106 (.bool false)) fun t107 =>
  ((gK (storeV 1 x4 t107 g) fun g =>
  
  retC Try.prog [.cell 4 4] [(4, x4)] g K) ∧ True)) ∧ True)) (
  gdV t96 true (lenL Try.prog 103 undefL g) fun t103 =>
  ((gd t96 true g (fun K => Ok Try.prog 31 [t98, t103] g K) fun t104 g =>
  
  gdV t96 true (lenL Try.prog 50 t104 g) fun t105 =>
  gdV t96 true (binL Try.prog .eql 3 true t105 (.int .i64 (0))) fun t106 =>
  vK (pickL t96 t106 (.bool false)) fun t107 =>
  ((gK (storeV 1 x4 t107 g) fun g =>
  
  retC Try.prog [.cell 4 4] [(4, x4)] g K) ∧ True)) ∧ True)))) ∧ True)) ∧ True)) ∧ True))) ∧ True))) (
  gdV t77 true (nilCheckL undefL) fun t82 =>
  gdV t77 true (fieldAddrL 3 t82) fun t83 =>
  gdD t77 true (loadV none t83 g) (fun t84 =>
  ((gd t77 true g (fun K => Ok Try.prog 32 [t79] g K) fun t80 g =>
  ((loadV none t83 g) = some t84 ∧ 
  ((gd t77 true g (fun K => Ok Try.prog 51 [t80, t84] g K) fun t85 g =>
  
  vK (pickL t77 t85 (.bool false)) fun t86 =>
  gdV t86 true (some x0) fun t88 =>
  ((gd t86 true g (fun K => Ok Try.prog 28 [t88] g K) fun t89 g =>
  
  vK (pickL t86 t89 (.bool false)) fun t90 =>
  gdV t90 true (some x0) fun t92 =>
  ((gd t90 true g (fun K => Ok Try.prog 31 [t92, (.int .i64 (-1))] g K) fun t93 g =>
  
  gdV t90 true (lenL Try.prog 50 t93 g) fun t94 =>
  gdV t90 true (binL Try.prog .eql 3 true t94 (.int .i64 (0))) fun t95 =>
  vK (pickL t90 t95 (.bool false)) fun t96 =>
  gdV t96 true (some x0) fun t98 =>
  gdD t96 true (loadV none x3 g) (fun t99 =>
  gdV t96 true (nilCheckL t99) fun t100 =>
  gdV t96 true (fieldAddrL 2 t100) fun t101 =>
  gdD t96 true (loadV none t101 g) (fun t102 =>
  gdV t96 true (lenL Try.prog 103 t102 g) fun t103 =>
  ((gd t96 true g (fun K => Ok Try.prog 31 [t98, t103] g K) fun t104 g =>
  
  gdV t96 true (lenL Try.prog 50 t104 g) fun t105 =>
  gdV t96 true (binL Try.prog .eql 3 true t105 (.int .i64 (0))) fun t106 =>
  vK (pickL t96 t106 (.bool false)) fun t107 =>
  ((gK (storeV 1 x4 t107 g) fun g =>
  
  retC Try.prog [.cell 4 4] [(4, x4)] g K) ∧ True)) ∧ True)) (
  gdV t96 true (lenL Try.prog 103 undefL g) fun t103 =>
  ((gd t96 true g (fun K => Ok Try.prog 31 [t98, t103] g K) fun t104 g =>
  
  gdV t96 true (lenL Try.prog 50 t104 g) fun t105 =>
  gdV t96 true (binL Try.prog .eql 3 true t105 (.int .i64 (0))) fun t106 =>
  vK (pickL t96 t106 (.bool false)) fun t107 =>
  ((gK (storeV 1 x4 t107 g) fun g =>
  
  retC Try.prog [.cell 4 4] [(4, x4)] g K) ∧ True)) ∧ True))) (
  gdV t96 true (nilCheckL undefL) fun t100 =>
  gdV t96 true (fieldAddrL 2 t100) fun t101 =>
  gdD t96 true (loadV none t101 g) (fun t102 =>
  gdV t96 true (lenL Try.prog 103 t102 g) fun t103 =>
  ((gd t96 true g (fun K => Ok Try.prog 31 [t98, t103] g K) fun t104 g =>
  
  gdV t96 true (lenL Try.prog 50 t104 g) fun t105 =>
  gdV t96 true (binL Try.prog .eql 3 true t105 (.int .i64 (0))) fun t106 =>
  vK (pickL t96 t106 (.bool false)) fun t107 =>
  ((gK (storeV 1 x4 t107 g) fun g =>
  
  retC Try.prog [.cell 4 4] [(4, x4)] g K) ∧ True)) ∧ True)) (
  gdV t96 true (lenL Try.prog 103 undefL g) fun t103 =>
  ((gd t96 true g (fun K => Ok Try.prog 31 [t98, t103] g K) fun t104 g =>
  
  gdV t96 true (lenL Try.prog 50 t104 g) fun t105 =>
  gdV t96 true (binL Try.prog .eql 3 true t105 (.int .i64 (0))) fun t106 =>
  vK (pickL t96 t106 (.bool false)) fun t107 =>
  ((gK (storeV 1 x4 t107 g) fun g =>
  
  retC Try.prog [.cell 4 4] [(4, x4)] g K) ∧ True)) ∧ True)))) ∧ True)) ∧ True)) ∧ True))) ∧ True)) (
  ((gd t77 true g (fun K => Ok Try.prog 32 [t79] g K) fun t80 g =>
  
  ((gd t77 true g (fun K => Ok Try.prog 51 [t80, undefL] g K) fun t85 g =>
  
  vK (pickL t77 t85 (.bool false)) fun t86 =>
  gdV t86 true (some x0) fun t88 =>
  ((gd t86 true g (fun K => Ok Try.prog 28 [t88] g K) fun t89 g =>
  
  vK (pickL t86 t89 (.bool false)) fun t90 =>
  gdV t90 true (some x0) fun t92 =>
  ((gd t90 true g (fun K => Ok Try.prog 31 [t92, (.int .i64 (-1))] g K) fun t93 g =>
  
  gdV t90 true (lenL Try.prog 50 t93 g) fun t94 =>
  gdV t90 true (binL Try.prog .eql 3 true t94 (.int .i64 (0))) fun t95 =>
  vK (pickL t90 t95 (.bool false)) fun t96 =>
  gdV t96 true (some x0) fun t98 =>
  gdD t96 true (loadV none x3 g) (fun t99 =>
  gdV t96 true (nilCheckL t99) fun t100 =>
  gdV t96 true (fieldAddrL 2 t100) fun t101 =>
  gdD t96 true (loadV none t101 g) (fun t102 =>
  gdV t96 true (lenL Try.prog 103 t102 g) fun t103 =>
  ((gd t96 true g (fun K => Ok Try.prog 31 [t98, t103] g K) fun t104 g =>
  
  gdV t96 true (lenL Try.prog 50 t104 g) fun t105 =>
  gdV t96 true (binL Try.prog .eql 3 true t105 (.int .i64 (0))) fun t106 =>
  vK (pickL t96 t106 (.bool false)) fun t107 =>
  ((gK (storeV 1 x4 t107 g) fun g =>
  
  retC Try.prog [.cell 4 4] [(4, x4)] g K) ∧ True)) ∧ True)) (
  gdV t96 true (lenL Try.prog 103 undefL g) fun t103 =>
  ((gd t96 true g (fun K => Ok Try.prog 31 [t98, t103] g K) fun t104 g =>
  
  gdV t96 true (lenL Try.prog 50 t104 g) fun t105 =>
  gdV t96 true (binL Try.prog .eql 3 true t105 (.int .i64 (0))) fun t106 =>
  vK (pickL t96 t106 (.bool false)) fun t107 =>
  ((gK (storeV 1 x4 t107 g) fun g =>
  
  retC Try.prog [.cell 4 4] [(4, x4)] g K) ∧ True)) ∧ True))) (
  gdV t96 true (nilCheckL undefL) fun t100 =>
  gdV t96 true (fieldAddrL 2 t100) fun t101 =>
  gdD t96 true (loadV none t101 g) (fun t102 =>
  gdV t96 true (lenL Try.prog 103 t102 g) fun t103 =>
  ((gd t96 true g (fun K => Ok Try.prog 31 [t98, t103] g K) fun t104 g =>
  
  gdV t96 true (lenL Try.prog 50 t104 g) fun t105 =>
  gdV t96 true (binL Try.prog .eql 3 true t105 (.int .i64 (0))) fun t106 =>
  vK (pickL t96 t106 (.bool false)) fun t107 =>
  ((gK (storeV 1 x4 t107 g) fun g =>
  
  retC Try.prog [.cell 4 4] [(4, x4)] g K) ∧ True)) ∧ True)) (
  gdV t96 true (lenL Try.prog 103 undefL g) fun t103 =>
  ((gd t96 true g (fun K => Ok Try.prog 31 [t98, t103] g K) fun t104 g =>
  
  gdV t96 true (lenL Try.prog 50 t104 g) fun t105 =>
  gdV t96 true (binL Try.prog .eql 3 true t105 (.int .i64 (0))) fun t106 =>
  vK (pickL t96 t106 (.bool false)) fun t107 =>
  ((gK (storeV 1 x4 t107 g) fun g =>
  
  retC Try.prog [.cell 4 4] [(4, x4)] g K) ∧ True)) ∧ True)))) ∧ True)) ∧ True)) ∧ True)) ∧ True))))) ∧ True))) (
  gdV t65 true (lenL Try.prog 50 undefL g) fun t73 =>
  gdD t65 true (loadV none x7 g) (fun t74 =>
  gdV t65 true (binL Try.prog .sub 3 false t73 t74) fun t75 =>
  ((gd t65 true g (fun K => Ok Try.prog 27 [t67] g K) fun t68 g =>
  ((loadV none x7 g) = some t74 ∧ 
  gdV t65 true (binL Try.prog .eql 3 false t68 t75) fun t76 =>
  vK (pickL t65 t76 (.bool false)) fun t77 =>
  gdV t77 true (some x0) fun t79 =>
  gdD t77 true (loadV none x3 g) (fun t81 =>
  gdV t77 true (nilCheckL t81) fun t82 =>
  gdV t77 true (fieldAddrL 3 t82) fun t83 =>
  gdD t77 true (loadV none t83 g) (fun t84 =>
  ((gd t77 true g (fun K => Ok Try.prog 32 [t79] g K) fun t80 g =>
  ((loadV none t83 g) = some t84 ∧ ((loadV none x3 g) = some t81 ∧ 
  ((gd t77 true g (fun K => Ok Try.prog 51 [t80, t84] g K) fun t85 g =>
  
  vK (pickL t77 t85 (.bool false)) fun t86 =>
  gdV t86 true (some x0) fun t88 =>
  ((gd t86 true g (fun K => Ok Try.prog 28 [t88] g K) fun t89 g =>
  
  vK (pickL t86 t89 (.bool false)) fun t90 =>
  gdV t90 true (some x0) fun t92 =>
  ((gd t90 true g (fun K => Ok Try.prog 31 [t92, (.int .i64 (-1))] g K) fun t93 g =>
  
  gdV t90 true (lenL Try.prog 50 t93 g) fun t94 =>
  gdV t90 true (binL Try.prog .eql 3 true t94 (.int .i64 (0))) fun t95 =>
  vK (pickL t90 t95 (.bool false)) fun t96 =>
  gdV t96 true (some x0) fun t98 =>
  gdD t96 true (loadV none x3 g) (fun t99 =>
  gdV t96 true (nilCheckL t99) fun t100 =>
  gdV t96 true (fieldAddrL 2 t100) fun t101 =>
  gdD t96 true (loadV none t101 g) (fun t102 =>
  gdV t96 true (lenL Try.prog 103 t102 g) fun t103 =>
  ((gd t96 true g (fun K => Ok Try.prog 31 [t98, t103] g K) fun t104 g =>
  
  gdV t96 true (lenL Try.prog 50 t104 g) fun t105 =>
  gdV t96 true (binL Try.prog .eql 3 true t105 (.int .i64 (0))) fun t106 =>
  vK (pickL t96 t106 (.bool false)) fun t107 =>
  ((gK (storeV 1 x4 t107 g) fun g =>
  
  retC Try.prog [.cell 4 4] [(4, x4)] g K) ∧ True)) ∧ True)) (
  gdV t96 true (lenL Try.prog 103 undefL g) fun t103 =>
  ((gd t96 true g (fun K => Ok Try.prog 31 [t98, t103] g K) fun t104 g =>
  
  gdV t96 true (lenL Try.prog 50 t104 g) fun t105 =>
  gdV t96 true (binL Try.prog .eql 3 true t105 (.int .i64 (0))) fun t106 =>
  vK (pickL t96 t106 (.bool false)) fun t107 =>
  ((gK (storeV 1 x4 t107 g) fun g =>
  
  retC Try.prog [.cell 4 4] [(4, x4)] g K) ∧ True)) ∧ True))) (
  gdV t96 true (nilCheckL undefL) fun t100 =>
  gdV t96 true (fieldAddrL 2 t100) fun t101 =>
  gdD t96 true (loadV none t101 g) (fun t102 =>
  gdV t96 true (lenL Try.prog 103 t102 g) fun t103 =>
  ((gd t96 true g (fun K => Ok Try.prog 31 [t98, t103] g K) fun t104 g =>
  
  gdV t96 true (lenL Try.prog 50 t104 g) fun t105 =>
  gdV t96 true (binL Try.prog .eql 3 true t105 (.int .i64 (0))) fun t106 =>
  vK (pickL t96 t106 (.bool false)) fun t107 =>
  ((gK (storeV 1 x4 t107 g) fun g =>
  
  retC Try.prog [.cell 4 4] [(4, x4)] g K) ∧ True)) ∧ True)) (
  gdV t96 true (lenL Try.prog 103 undefL g) fun t103 =>
  ((gd t96 true g (fun K => Ok Try.prog 31 [t98, t103] g K) fun t104 g =>
  
  gdV t96 true (lenL Try.prog 50 t104 g) fun t105 =>
  gdV t96 true (binL Try.prog .eql 3 true t105 (.int .i64 (0))) fun t106 =>
  vK (pickL t96 t106 (.bool false)) fun t107 =>
  ((gK (storeV 1 x4 t107 g) fun g =>
  
  retC Try.prog [.cell 4 4] [(4, x4)] g K) ∧ True)) ∧ True)))) ∧ True)) ∧ True)) ∧ True)))) ∧ True)) (
  ((gd t77 true g (fun K => Ok Try.prog 32 [t79] g K) fun t80 g =>
  ((loadV none x3 g) = some t81 ∧ 
  ((gd t77 true g (fun K => Ok Try.prog 51 [t80, undefL] g K) fun t85 g =>
  
  vK (pickL t77 t85 (.bool false)) fun t86 =>
  gdV t86 true (some x0) fun t88 =>
  ((gd t86 true g (fun K => Ok Try.prog 28 [t88] g K) fun t89 g =>
  
  vK (pickL t86 t89 (.bool false)) fun t90 =>
  gdV t90 true (some x0) fun t92 =>
  ((gd t90 true g (fun K => Ok Try.prog 31 [t92, (.int .i64 (-1))] g K) fun t93 g =>
  
  gdV t90 true (lenL Try.prog 50 t93 g) fun t94 =>
  gdV t90 true (binL Try.prog .eql 3 true t94 (.int .i64 (0))) fun t95 =>
  vK (pickL t90 t95 (.bool false)) fun t96 =>
  gdV t96 true (some x0) fun t98 =>
  gdD t96 true (loadV none x3 g) (fun t99 =>
  gdV t96 true (nilCheckL t99) fun t100 =>
  gdV t96 true (fieldAddrL 2 t100) fun t101 =>
  gdD t96 true (loadV none t101 g) (fun t102 =>
  gdV t96 true (lenL Try.prog 103 t102 g) fun t103 =>
  ((gd t96 true g (fun K => Ok Try.prog 31 [t98, t103] g K) fun t104 g =>
  
  gdV t96 true (lenL Try.prog 50 t104 g) fun t105 =>
  gdV t96 true (binL Try.prog .eql 3 true t105 (.int .i64 (0))) fun t106 =>
  vK (pickL t96 t106 (.bool false)) fun t107 =>
  ((gK (storeV 1 x4 t107 g) fun g =>
  
  retC Try.prog [.cell 4 4] [(4, x4)] g K) ∧ True)) ∧ True)) (
  gdV t96 true (lenL Try.prog 103 undefL g) fun t103 =>
  ((gd t96 true g (fun K => Ok Try.prog 31 [t98, t103] g K) fun t104 g =>
  
  gdV t96 true (lenL Try.prog 50 t104 g) fun t105 =>
  gdV t96 true (binL Try.prog .eql 3 true t105 (.int .i64 (0))) fun t106 =>
  vK (pickL t96 t106 (.bool false)) fun t107 =>
  ((gK (storeV 1 x4 t107 g) fun g =>
  
  retC Try.prog [.cell 4 4] [(4, x4)] g K) ∧ True)) ∧ True))) (
  gdV t96 true (nilCheckL undefL) fun t100 =>
  gdV t96 true (fieldAddrL 2 t100) fun t101 =>
  gdD t96 true (loadV none t101 g) (fun t102 =>
  gdV t96 true (lenL Try.prog 103 t102 g) fun t103 =>
  ((gd t96 true g (fun K => Ok Try.prog 31 [t98, t103] g K) fun t104 g =>
  
  gdV t96 true (lenL Try.prog 50 t104 g) fun t105 =>
  gdV t96 true (binL Try.prog .eql 3 true t105 (.int .i64 (0))) fun t106 =>
  vK (pickL t96 t106 (.bool false)) fun t107 =>
  ((gK (storeV 1 x4 t107 g) fun g =>
  
  retC Try.prog [.cell 4 4] [(4, x4)] g K) ∧ True)) ∧ True)) (
  gdV t96 true (lenL Try.prog 103 undefL g) fun t103 =>
  ((gd t96 true g (fun K => Ok Try.prog 31 [t98, t103] g K) fun t104 g =>
  
  gdV t96 true (lenL Try.prog 50 t104 g) fun t105 =>
  gdV t96 true (binL Try.prog .eql 3 true t105 (.int .i64 (0))) fun t106 =>
  vK (pickL t96 t106 (.bool false)) fun t107 =>
  ((gK (storeV 1 x4 t107 g) fun g =>
  
  retC Try.prog [.cell 4 4] [(4, x4)] g K) ∧ True)) ∧ True)))) ∧ True)) ∧ True)) ∧ True))) ∧ True))) (
  gdV t77 true (nilCheckL undefL) fun t82 =>
  gdV t77 true (fieldAddrL 3 t82) fun t83 =>
  gdD t77 true (loadV none t83 g) (fun t84 =>
  ((gd t77 true g (fun K => Ok Try.prog 32 [t79] g K) fun t80 g =>
  ((loadV none t83 g) = some t84 ∧ 
  ((gd t77 true g (fun K => Ok Try.prog 51 [t80, t84] g K) fun t85 g =>
  
  vK (pickL t77 t85 (.bool false)) fun t86 =>
  gdV t86 true (some x0) fun t88 =>
  ((gd t86 true g (fun K => Ok Try.prog 28 [t88] g K) fun t89 g =>
  
  vK (pickL t86 t89 (.bool false)) fun t90 =>
  gdV t90 true (some x0) fun t92 =>
  ((gd t90 true g (fun K => Ok Try.prog 31 [t92, (.int .i64 (-1))] g K) fun t93 g =>
  
  gdV t90 true (lenL Try.prog 50 t93 g) fun t94 =>
  gdV t90 true (binL Try.prog .eql 3 true t94 (.int .i64 (0))) fun t95 =>
  vK (pickL t90 t95 (.bool false)) fun t96 =>
  gdV t96 true (some x0) fun t98 =>
  gdD t96 true (loadV none x3 g) (fun t99 =>
  gdV t96 true (nilCheckL t99) fun t100 =>
  gdV t96 true (fieldAddrL 2 t100) fun t101 =>
  gdD t96 true (loadV none t101 g) (fun t102 =>
  gdV t96 true (lenL Try.prog 103 t102 g) fun t103 =>
  ((gd t96 true g (fun K => Ok Try.prog 31 [t98, t103] g K) fun t104 g =>
  
  gdV t96 true (lenL Try.prog 50 t104 g) fun t105 =>
  gdV t96 true (binL Try.prog .eql 3 true t105 (.int .i64 (0))) fun t106 =>
  vK (pickL t96 t106 (.bool false)) fun t107 =>
  ((gK (storeV 1 x4 t107 g) fun g =>
  
  retC Try.prog [.cell 4 4] [(4, x4)] g K) ∧ True)) ∧ True)) (
  gdV t96 true (lenL Try.prog 103 undefL g) fun t103 =>
  ((gd t96 true g (fun K => Ok Try.prog 31 [t98, t103] g K) fun t104 g =>
  
  gdV t96 true (lenL Try.prog 50 t104 g) fun t105 =>
  gdV t96 true (binL Try.prog .eql 3 true t105 (.int .i64 (0))) fun t106 =>
  vK (pickL t96 t106 (.bool false)) fun t107 =>
  ((gK (storeV 1 x4 t107 g) fun g =>
  
  retC Try.prog [.cell 4 4] [(4, x4)] g K) ∧ True)) ∧ True))) (
  gdV t96 true (nilCheckL undefL) fun t100 =>
  gdV t96 true (fieldAddrL 2 t100) fun t101 =>
  gdD t96 true (loadV none t101 g) (fun t102 =>
  gdV t96 true (lenL Try.prog 103 t102 g) fun t103 =>
  ((gd t96 true g (fun K => Ok Try.prog 31 [t98, t103] g K) fun t104 g =>
  
  gdV t96 true (lenL Try.prog 50 t104 g) fun t105 =>
  gdV t96 true (binL Try.prog .eql 3 true t105 (.int .i64 (0))) fun t106 =>
  vK (pickL t96 t106 (.bool false)) fun t107 =>
  ((gK (storeV 1 x4 t107 g) fun g =>
  
  retC Try.prog [.cell 4 4] [(4, x4)] g K) ∧ True)) ∧ True)) (
  gdV t96 true (lenL Try.prog 103 undefL g) fun t103 =>
  ((gd t96 true g (fun K => Ok Try.prog 31 [t98, t103] g K) fun t104 g =>
  
  gdV t96 true (lenL Try.prog 50 t104 g) fun t105 =>
  gdV t96 true (binL Try.prog .eql 3 true t105 (.int .i64 (0))) fun t106 =>
  vK (pickL t96 t106 (.bool false)) fun t107 =>
  ((gK (storeV 1 x4 t107 g) fun g =>
  
  retC Try.prog [.cell 4 4] [(4, x4)] g K) ∧ True)) ∧ True)))) ∧ True)) ∧ True)) ∧ True))) ∧ True)) (
  ((gd t77 true g (fun K => Ok Try.prog 32 [t79] g K) fun t80 g =>
  
  ((gd t77 true g (fun K => Ok Try.prog 51 [t80, undefL] g K) fun t85 g =>
  
  vK (pickL t77 t85 (.bool false)) fun t86 =>
  gdV t86 true (some x0) fun t88 =>
  ((gd t86 true g (fun K => Ok Try.prog 28 [t88] g K) fun t89 g =>
  
  vK (pickL t86 t89 (.bool false)) fun t90 =>
  gdV t90 true (some x0) fun t92 =>
  ((gd t90 true g (fun K => Ok Try.prog 31 [t92, (.int .i64 (-1))] g K) fun t93 g =>
  
  gdV t90 true (lenL Try.prog 50 t93 g) fun t94 =>
  gdV t90 true (binL Try.prog .eql 3 true t94 (.int .i64 (0))) fun t95 =>
  vK (pickL t90 t95 (.bool false)) fun t96 =>
  gdV t96 true (some x0) fun t98 =>
  gdD t96 true (loadV none x3 g) (fun t99 =>
  gdV t96 true (nilCheckL t99) fun t100 =>
  gdV t96 true (fieldAddrL 2 t100) fun t101 =>
  gdD t96 true (loadV none t101 g) (fun t102 =>
  gdV t96 true (lenL Try.prog 103 t102 g) fun t103 =>
  ((gd t96 true g (fun K => Ok Try.prog 31 [t98, t103] g K) fun t104 g =>
  
  gdV t96 true (lenL Try.prog 50 t104 g) fun t105 =>
  gdV t96 true (binL Try.prog .eql 3 true t105 (.int .i64 (0))) fun t106 =>
  vK (pickL t96 t106 (.bool false)) fun t107 =>
  ((gK (storeV 1 x4 t107 g) fun g =>
  
  retC Try.prog [.cell 4 4] [(4, x4)] g K) ∧ True)) ∧ True)) (
  gdV t96 true (lenL Try.prog 103 undefL g) fun t103 =>
  ((gd t96 true g (fun K => Ok Try.prog 31 [t98, t103] g K) fun t104 g =>
  
  gdV t96 true (lenL Try.prog 50 t104 g) fun t105 =>
  gdV t96 true (binL Try.prog .eql 3 true t105 (.int .i64 (0))) fun t106 =>
  vK (pickL t96 t106 (.bool false)) fun t107 =>
  ((gK (storeV 1 x4 t107 g) fun g =>
  
  retC Try.prog [.cell 4 4] [(4, x4)] g K) ∧ True)) ∧ True))) (
  gdV t96 true (nilCheckL undefL) fun t100 =>
  gdV t96 true (fieldAddrL 2 t100) fun t101 =>
  gdD t96 true (loadV none t101 g) (fun t102 =>
  gdV t96 true (lenL Try.prog 103 t102 g) fun t103 =>
  ((gd t96 true g (fun K => Ok Try.prog 31 [t98, t103] g K) fun t104 g =>
  
  gdV t96 true (lenL Try.prog 50 t104 g) fun t105 =>
  gdV t96 true (binL Try.prog .eql 3 true t105 (.int .i64 (0))) fun t106 =>
  vK (pickL t96 t106 (.bool false)) fun t107 =>
  ((gK (storeV 1 x4 t107 g) fun g =>
  
  retC Try.prog [.cell 4 4] [(4, x4)] g K) ∧ True)) ∧ True)) (
  gdV t96 true (lenL Try.prog 103 undefL g) fun t103 =>
  ((gd t96 true g (fun K => Ok Try.prog 31 [t98, t103] g K) fun t104 g =>
  
  gdV t96 true (lenL Try.prog 50 t104 g) fun t105 =>
  gdV t96 true (binL Try.prog .eql 3 true t105 (.int .i64 (0))) fun t106 =>
  vK (pickL t96 t106 (.bool false)) fun t107 =>
  ((gK (storeV 1 x4 t107 g) fun g =>
  
  retC Try.prog [.cell 4 4] [(4, x4)] g K) ∧ True)) ∧ True)))) ∧ True)) ∧ True)) ∧ True)) ∧ True))))) ∧ True)) (
  gdV t65 true (binL Try.prog .sub 3 false t73 undefL) fun t75 =>
  ((gd t65 true g (fun K => Ok Try.prog 27 [t67] g K) fun t68 g =>
  
  gdV t65 true (binL Try.prog .eql 3 false t68 t75) fun t76 =>
  vK (pickL t65 t76 (.bool false)) fun t77 =>
  gdV t77 true (some x0) fun t79 =>
  gdD t77 true (loadV none x3 g) (fun t81 =>
  gdV t77 true (nilCheckL t81) fun t82 =>
  gdV t77 true (fieldAddrL 3 t82) fun t83 =>
  gdD t77 true (loadV none t83 g) (fun t84 =>
  ((gd t77 true g (fun K => Ok Try.prog 32 [t79] g K) fun t80 g =>
  ((loadV none t83 g) = some t84 ∧ ((loadV none x3 g) = some t81 ∧ 
  ((gd t77 true g (fun K => Ok Try.prog 51 [t80, t84] g K) fun t85 g =>
  
  vK (pickL t77 t85 (.bool false)) fun t86 =>
  gdV t86 true (some x0) fun t88 =>
  ((gd t86 true g (fun K => Ok Try.prog 28 [t88] g K) fun t89 g =>
  
  vK (pickL t86 t89 (.bool false)) fun t90 =>
  gdV t90 true (some x0) fun t92 =>
  ((gd t90 true g (fun K => Ok Try.prog 31 [t92, (.int .i64 (-1))] g K) fun t93 g =>
  
  gdV t90 true (lenL Try.prog 50 t93 g) fun t94 =>
  gdV t90 true (binL Try.prog .eql 3 true t94 (.int .i64 (0))) fun t95 =>
  vK (pickL t90 t95 (.bool false)) fun t96 =>
  gdV t96 true (some x0) fun t98 =>
  gdD t96 true (loadV none x3 g) (fun t99 =>
  gdV t96 true (nilCheckL t99) fun t100 =>
  gdV t96 true (fieldAddrL 2 t100) fun t101 =>
  gdD t96 true (loadV none t101 g) (fun t102 =>
  gdV t96 true (lenL Try.prog 103 t102 g) fun t103 =>
  ((gd t96 true g (fun K => Ok Try.prog 31 [t98, t103] g K) fun t104 g =>
  
  gdV t96 true (lenL Try.prog 50 t104 g) fun t105 =>
  gdV t96 true (binL Try.prog .eql 3 true t105 (.int .i64 (0))) fun t106 =>
  vK (pickL t96 t106 (.bool false)) fun t107 =>
  ((gK (storeV 1 x4 t107 g) fun g =>
  
  retC Try.prog [.cell 4 4] [(4, x4)] g K) ∧ True)) ∧ True)) (
  gdV t96 true (lenL Try.prog 103 undefL g) fun t103 =>
  ((gd t96 true g (fun K => Ok Try.prog 31 [t98, t103] g K) fun t104 g =>
  
  gdV t96 true (lenL Try.prog 50 t104 g) fun t105 =>
  gdV t96 true (binL Try.prog .eql 3 true t105 (.int .i64 (0))) fun t106 =>
  vK (pickL t96 t106 (.bool false)) fun t107 =>
  ((gK (storeV 1 x4 t107 g) fun g =>
  
  retC Try.prog [.cell 4 4] [(4, x4)] g K) ∧ True)) ∧ True))) (
  gdV t96 true (nilCheckL undefL) fun t100 =>
  gdV t96 true (fieldAddrL 2 t100) fun t101 =>
  gdD t96 true (loadV none t101 g) (fun t102 =>
  gdV t96 true (lenL Try.prog 103 t102 g) fun t103 =>
  ((gd t96 true g (fun K => Ok Try.prog 31 [t98, t103] g K) fun t104 g =>
  
  gdV t96 true (lenL Try.prog 50 t104 g) fun t105 =>
  gdV t96 true (binL Try.prog .eql 3 true t105 (.int .i64 (0))) fun t106 =>
  vK (pickL t96 t106 (.bool false)) fun t107 =>
  ((gK (storeV 1 x4 t107 g) fun g =>
  
  retC Try.prog [.cell 4 4] [(4, x4)] g K) ∧ True)) ∧ True)) (
  gdV t96 true (lenL Try.prog 103 undefL g) fun t103 =>
  ((gd t96 true g (fun K => Ok Try.prog 31 [t98, t103] g K) fun t104 g =>
  
  gdV t96 true (lenL Try.prog 50 t104 g) fun t105 =>
  gdV t96 true (binL Try.prog .eql 3 true t105 (.int .i64 (0))) fun t106 =>
  vK (pickL t96 t106 (.bool false)) fun t107 =>
  ((gK (storeV 1 x4 t107 g) fun g =>
  
  retC Try.prog [.cell 4 4] [(4, x4)] g K) ∧ True)) ∧ True)))) ∧ True)) ∧ True)) ∧ True)))) ∧ True)) (
  ((gd t77 true g (fun K => Ok Try.prog 32 [t79] g K) fun t80 g =>
  ((loadV none x3 g) = some t81 ∧ 
  ((gd t77 true g (fun K => Ok Try.prog 51 [t80, undefL] g K) fun t85 g =>
  
  vK (pickL t77 t85 (.bool false)) fun t86 =>
  gdV t86 true (some x0) fun t88 =>
  ((gd t86 true g (fun K => Ok Try.prog 28 [t88] g K) fun t89 g =>
  
  vK (pickL t86 t89 (.bool false)) fun t90 =>
  gdV t90 true (some x0) fun t92 =>
  ((gd t90 true g (fun K => Ok Try.prog 31 [t92, (.int .i64 (-1))] g K) fun t93 g =>
  
  gdV t90 true (lenL Try.prog 50 t93 g) fun t94 =>
  gdV t90 true (binL Try.prog .eql 3 true t94 (.int .i64 (0))) fun t95 =>
  vK (pickL t90 t95 (.bool false)) fun t96 =>
  gdV t96 true (some x0) fun t98 =>
  gdD t96 true (loadV none x3 g) (fun t99 =>
  gdV t96 true (nilCheckL t99) fun t100 =>
  gdV t96 true (fieldAddrL 2 t100) fun t101 =>
  gdD t96 true (loadV none t101 g) (fun t102 =>
  gdV t96 true (lenL Try.prog 103 t102 g) fun t103 =>
  ((gd t96 true g (fun K => Ok Try.prog 31 [t98, t103] g K) fun t104 g =>
  
  gdV t96 true (lenL Try.prog 50 t104 g) fun t105 =>
  gdV t96 true (binL Try.prog .eql 3 true t105 (.int .i64 (0))) fun t106 =>
  vK (pickL t96 t106 (.bool false)) fun t107 =>
  ((gK (storeV 1 x4 t107 g) fun g =>
  
  retC Try.prog [.cell 4 4] [(4, x4)] g K) ∧ True)) ∧ True)) (
  gdV t96 true (lenL Try.prog 103 undefL g) fun t103 =>
  ((gd t96 true g (fun K => Ok Try.prog 31 [t98, t103] g K) fun t104 g =>
  
  gdV t96 true (lenL Try.prog 50 t104 g) fun t105 =>
  gdV t96 true (binL Try.prog .eql 3 true t105 (.int .i64 (0))) fun t106 =>
  vK (pickL t96 t106 (.bool false)) fun t107 =>
  ((gK (storeV 1 x4 t107 g) fun g =>
  
  retC Try.prog [.cell 4 4] [(4, x4)] g K) ∧ True)) ∧ True))) (
  gdV t96 true (nilCheckL undefL) fun t100 =>
  gdV t96 true (fieldAddrL 2 t100) fun t101 =>
  gdD t96 true (loadV none t101 g) (fun t102 =>
  gdV t96 true (lenL Try.prog 103 t102 g) fun t103 =>
  ((gd t96 true g (fun K => Ok Try.prog 31 [t98, t103] g K) fun t104 g =>
  
  gdV t96 true (lenL Try.prog 50 t104 g) fun t105 =>
  gdV t96 true (binL Try.prog .eql 3 true t105 (.int .i64 (0))) fun t106 =>
  vK (pickL t96 t106 (.bool false)) fun t107 =>
  ((gK (storeV 1 x4 t107 g) fun g =>
  
  retC Try.prog [.cell 4 4] [(4, x4)] g K) ∧ True)) ∧ True)) (
  gdV t96 true (lenL Try.prog 103 undefL g) fun t103 =>
  ((gd t96 true g (fun K => Ok Try.prog 31 [t98, t103] g K) fun t104 g =>
  
  gdV t96 true (lenL Try.prog 50 t104 g) fun t105 =>
  gdV t96 true (binL Try.prog .eql 3 true t105 (.int .i64 (0))) fun t106 =>
  vK (pickL t96 t106 (.bool false)) fun t107 =>
  ((gK (storeV 1 x4 t107 g) fun g =>
  
  retC Try.prog [.cell 4 4] [(4, x4)] g K) ∧ True)) ∧ True)))) ∧ True)) ∧ True)) ∧ True))) ∧ True))) (
  gdV t77 true (nilCheckL undefL) fun t82 =>
  gdV t77 true (fieldAddrL 3 t82) fun t83 =>
  gdD t77 true (loadV none t83 g) (fun t84 =>
  ((gd t77 true g (fun K => Ok Try.prog 32 [t79] g K) fun t80 g =>
  ((loadV none t83 g) = some t84 ∧ 
  ((gd t77 true g (fun K => Ok Try.prog 51 [t80, t84] g K) fun t85 g =>
  
  vK (pickL t77 t85 (.bool false)) fun t86 =>
  gdV t86 true (some x0) fun t88 =>
  ((gd t86 true g (fun K => Ok Try.prog 28 [t88] g K) fun t89 g =>
  
  vK (pickL t86 t89 (.bool false)) fun t90 =>
  gdV t90 true (some x0) fun t92 =>
  ((gd t90 true g (fun K => Ok Try.prog 31 [t92, (.int .i64 (-1))] g K) fun t93 g =>
  
  gdV t90 true (lenL Try.prog 50 t93 g) fun t94 =>
  gdV t90 true (binL Try.prog .eql 3 true t94 (.int .i64 (0))) fun t95 =>
  vK (pickL t90 t95 (.bool false)) fun t96 =>
  gdV t96 true (some x0) fun t98 =>
  gdD t96 true (loadV none x3 g) (fun t99 =>
  gdV t96 true (nilCheckL t99) fun t100 =>
  gdV t96 true (fieldAddrL 2 t100) fun t101 =>
  gdD t96 true (loadV none t101 g) (fun t102 =>
  gdV t96 true (lenL Try.prog 103 t102 g) fun t103 =>
  ((gd t96 true g (fun K => Ok Try.prog 31 [t98, t103] g K) fun t104 g =>
  
  gdV t96 true (lenL Try.prog 50 t104 g) fun t105 =>
  gdV t96 true (binL Try.prog .eql 3 true t105 (.int .i64 (0))) fun t106 =>
  vK (pickL t96 t106 (.bool false)) fun t107 =>
  ((gK (storeV 1 x4 t107 g) fun g =>
  
  retC Try.prog [.cell 4 4] [(4, x4)] g K) ∧ True)) ∧ True)) (
  gdV t96 true (lenL Try.prog 103 undefL g) fun t103 =>
  ((gd t96 true g (fun K => Ok Try.prog 31 [t98, t103] g K) fun t104 g =>
  
  gdV t96 true (lenL Try.prog 50 t104 g) fun t105 =>
  gdV t96 true (binL Try.prog .eql 3 true t105 (.int .i64 (0))) fun t106 =>
  vK (pickL t96 t106 (.bool false)) fun t107 =>
  ((gK (storeV 1 x4 t107 g) fun g =>
  
  retC Try.prog [.cell 4 4] [(4, x4)] g K) ∧ True)) ∧ True))) (
  gdV t96 true (nilCheckL undefL) fun t100 =>
  gdV t96 true (fieldAddrL 2 t100) fun t101 =>
  gdD t96 true (loadV none t101 g) (fun t102 =>
  gdV t96 true (lenL Try.prog 103 t102 g) fun t103 =>
  ((gd t96 true g (fun K => Ok Try.prog 31 [t98, t103] g K) fun t104 g =>
  
  gdV t96 true (lenL Try.prog 50 t104 g) fun t105 =>
  gdV t96 true (binL Try.prog .eql 3 true t105 (.int .i64 (0))) fun t106 =>
  vK (pickL t96 t106 (.bool false)) fun t107 =>
  ((gK (storeV 1 x4 t107 g) fun g =>
  
  retC Try.prog [.cell 4 4] [(4, x4)] g K) ∧ True)) ∧ True)) (
  gdV t96 true (lenL Try.prog 103 undefL g) fun t103 =>
  ((gd t96 true g (fun K => Ok Try.prog 31 [t98, t103] g K) fun t104 g =>
  
  gdV t96 true (lenL Try.prog 50 t104 g) fun t105 =>
  gdV t96 true (binL Try.prog .eql 3 true t105 (.int .i64 (0))) fun t106 =>
  vK (pickL t96 t106 (.bool false)) fun t107 =>
  ((gK (storeV 1 x4 t107 g) fun g =>
  
  retC Try.prog [.cell 4 4] [(4, x4)] g K) ∧ True)) ∧ True)))) ∧ True)) ∧ True)) ∧ True))) ∧ True)) (
  ((gd t77 true g (fun K => Ok Try.prog 32 [t79] g K) fun t80 g =>
  
  ((gd t77 true g (fun K => Ok Try.prog 51 [t80, undefL] g K) fun t85 g =>
  
  vK (pickL t77 t85 (.bool false)) fun t86 =>
  gdV t86 true (some x0) fun t88 =>
  ((gd t86 true g (fun K => Ok Try.prog 28 [t88] g K) fun t89 g =>
  
  vK (pickL t86 t89 (.bool false)) fun t90 =>
  gdV t90 true (some x0) fun t92 =>
  ((gd t90 true g (fun K => Ok Try.prog 31 [t92, (.int .i64 (-1))] g K) fun t93 g =>
  
  gdV t90 true (lenL Try.prog 50 t93 g) fun t94 =>
  gdV t90 true (binL Try.prog .eql 3 true t94 (.int .i64 (0))) fun t95 =>
  vK (pickL t90 t95 (.bool false)) fun t96 =>
  gdV t96 true (some x0) fun t98 =>
  gdD t96 true (loadV none x3 g) (fun t99 =>
  gdV t96 true (nilCheckL t99) fun t100 =>
  gdV t96 true (fieldAddrL 2 t100) fun t101 =>
  gdD t96 true (loadV none t101 g) (fun t102 =>
  gdV t96 true (lenL Try.prog 103 t102 g) fun t103 =>
  ((gd t96 true g (fun K => Ok Try.prog 31 [t98, t103] g K) fun t104 g =>
  
  gdV t96 true (lenL Try.prog 50 t104 g) fun t105 =>
  gdV t96 true (binL Try.prog .eql 3 true t105 (.int .i64 (0))) fun t106 =>
  vK (pickL t96 t106 (.bool false)) fun t107 =>
  ((gK (storeV 1 x4 t107 g) fun g =>
  
  retC Try.prog [.cell 4 4] [(4, x4)] g K) ∧ True)) ∧ True)) (
  gdV t96 true (lenL Try.prog 103 undefL g) fun t103 =>
  ((gd t96 true g (fun K => Ok Try.prog 31 [t98, t103] g K) fun t104 g =>
  
  gdV t96 true (lenL Try.prog 50 t104 g) fun t105 =>
  gdV t96 true (binL Try.prog .eql 3 true t105 (.int .i64 (0))) fun t106 =>
  vK (pickL t96 t106 (.bool false)) fun t107 =>
  ((gK (storeV 1 x4 t107 g) fun g =>
  
  retC Try.prog [.cell 4 4] [(4, x4)] g K) ∧ True)) ∧ True))) (
  gdV t96 true (nilCheckL undefL) fun t100 =>
  gdV t96 true (fieldAddrL 2 t100) fun t101 =>
  gdD t96 true (loadV none t101 g) (fun t102 =>
  gdV t96 true (lenL Try.prog 103 t102 g) fun t103 =>
  ((gd t96 true g (fun K => Ok Try.prog 31 [t98, t103] g K) fun t104 g =>
  
  gdV t96 true (lenL Try.prog 50 t104 g) fun t105 =>
  gdV t96 true (binL Try.prog .eql 3 true t105 (.int .i64 (0))) fun t106 =>
  vK (pickL t96 t106 (.bool false)) fun t107 =>
  ((gK (storeV 1 x4 t107 g) fun g =>
  
  retC Try.prog [.cell 4 4] [(4, x4)] g K) ∧ True)) ∧ True)) (
  gdV t96 true (lenL Try.prog 103 undefL g) fun t103 =>
  ((gd t96 true g (fun K => Ok Try.prog 31 [t98, t103] g K) fun t104 g =>
  
  gdV t96 true (lenL Try.prog 50 t104 g) fun t105 =>
  gdV t96 true (binL Try.prog .eql 3 true t105 (.int .i64 (0))) fun t106 =>
  vK (pickL t96 t106 (.bool false)) fun t107 =>
  ((gK (storeV 1 x4 t107 g) fun g =>
  
  retC Try.prog [.cell 4 4] [(4, x4)] g K) ∧ True)) ∧ True)))) ∧ True)) ∧ True)) ∧ True)) ∧ True)))) ∧ True))))) ∧ True)))) ∧ True)
abbrev kj38_4  (K : LV → LHeap → Prop) : LSt → Prop := fun st => J38_4 (st.tm 0) (st.tm 3) (st.tm 4) (st.tm 7) st.g  K
theorem J38_4_ok  (K : LV → LHeap → Prop) (tm : Nat → LV) (g : LHeap) (h : J38_4 (tm 0) (tm 3) (tm 4) (tm 7) g  K) : codeL Try.prog (Ok Try.prog) (nd38 [1, 1, 1, 1, 1]) ⟨tm, g⟩ (en38 K) := by
  try unfold J38_4 at h
  refine code3_sound ok_mono (pl := [(16, (.lt 0 true (.lt 1 false (.hv 2 (.lt 3 false (.lt 4 false (.lt 5 false (.lt 7 true (.hv 6 (.lt 8 false (.lt 9 false (.lt 10 false (.lt 11 false (.lt 13 true (.lt 14 false (.lt 15 false (.lt 16 true (.lt 17 false (.lt 18 true (.lt 19 false (.hv 12 (.lt 20 false (.lt 21 false (.lt 22 false (.lt 23 false (.lt 25 true (.lt 26 false (.lt 27 false (.lt 28 true (.hv 24 (.hv 29 (.lt 30 false (.lt 31 false (.lt 32 false (.hv 33 (.lt 34 false (.lt 35 false (.lt 36 false (.hv 37 (.lt 38 false (.lt 39 false (.lt 40 false (.lt 41 false (.lt 42 false (.lt 43 true (.lt 44 false (.lt 45 false (.lt 46 true (.lt 47 false (.hv 48 (.lt 49 false (.lt 50 false (.lt 51 false (.hv 52 .nil .nil)))) .nil))))))))))) .nil)))) .nil)))) .nil) .nil))))))))) .nil)))))))))))) .nil))))) .nil))))]) _ _ _ (by kernel_rfl) ?_
  refine kmp ?_ h
  generalize Ok Try.prog = C
  try unfold en38
  as_aux_lemma => kernel_rfl

noncomputable def B38_6 (g : LHeap) (K : LV → LHeap → Prop) : Prop :=
  K (.int .i64 4) g
theorem B38_6_ok (K : LV → LHeap → Prop) (tm : Nat → LV) (g : LHeap) (h : B38_6  g K) : codeL Try.prog (Ok Try.prog) (nd38 [1, 1, 1, 1, 0, 1, 0, 1]) ⟨tm, g⟩ (rkE K) := by
  try unfold B38_6 at h
  refine code2_sound ok_mono _ _ _ ?_
  refine kmp ?_ h
  generalize Ok Try.prog = C
  try unfold en38
  as_aux_lemma => kernel_rfl

noncomputable def R38_6 (x54 x55 : LV) (rl : Nat) (g : LHeap) (K : LV → LHeap → Prop) : Prop :=
  beginP rl g fun g =>
  B38_6  g (endK rl K)
theorem R38_6_ok (K : LV → LHeap → Prop) (tm : Nat → LV) (rl : Nat) (y0 y1 : LV) (g : LHeap) (h : R38_6  y0 y1 rl g K) : codeL Try.prog (Ok Try.prog) (nd38 [1, 1, 1, 1, 0, 1, 0, 0]) ⟨putAll tm [(54, y0), (55, y1)], g⟩ (roundB Try.prog (Ok Try.prog) rl (nd38 [1, 1, 1, 1, 0, 1, 0, 1]) K) := by
  refine round_glue (fun st => B38_6  st.g (endK rl K)) (fun st h => B38_6_ok (endK rl K) st.tm st.g h) ?_
  try unfold R38_6 at h
  refine code2_sound ok_mono _ _ _ ?_
  refine kmp ?_ h
  generalize Ok Try.prog = C
  try unfold en38
  as_aux_lemma => kernel_rfl

noncomputable def J38_5 (x0 x3 x4 x7 x53 : LV) (g : LHeap)  (K : LV → LHeap → Prop) : Prop :=
  rangeP Try.prog x53 g (fun rl zs g K => ∃ y0, ∃ y1, zs = [y0, y1] ∧ R38_6  y0 y1 rl g K) (fun g => J38_4 x0 x3 x4 x7 g  K) (fun id g => (id = 4 ∧ J38_4 x0 x3 x4 x7 g  K) ∨ False) (fun g => False)
abbrev kj38_5  (K : LV → LHeap → Prop) : LSt → Prop := fun st => J38_5 (st.tm 0) (st.tm 3) (st.tm 4) (st.tm 7) (st.tm 53) st.g  K
theorem J38_5_ok  (K : LV → LHeap → Prop) (tm : Nat → LV) (g : LHeap) (h : J38_5 (tm 0) (tm 3) (tm 4) (tm 7) (tm 53) g  K) : codeL Try.prog (Ok Try.prog) (nd38 [1, 1, 1, 1, 0, 1]) ⟨tm, g⟩ (thenL (kj38_4  K) (en38 K)) := by
  refine block_i (b := nd38 [1, 1, 1, 1, 0, 1, 0]) (i := 4) (by kernel_rfl) ?_
  exact range_glue Try.mixed (f := .tmp 53) (ps := #[54, 55]) (asg := nd38 [1, 1, 1, 1, 0, 1, 0, 0]) (body := nd38 [1, 1, 1, 1, 0, 1, 0, 1]) (by kernel_rfl) (fun tm : Nat → LV => ()) (fun a => (fun rl zs g K => ∃ y0, ∃ y1, zs = [y0, y1] ∧ R38_6  y0 y1 rl g K)) (fun tm rl zs g K h => by
    obtain ⟨y0, y1, rfl, h⟩ := h
    exact ⟨rfl, R38_6_ok K tm rl y0 y1 g h⟩) tm g (fun _ h => h) (fun id g h => by
    rcases h with ⟨rfl, h⟩ | h
    · exact h
    · exact h.elim) (fun _ h => h.elim) h

noncomputable def J38_3 (x0 x3 x4 x7 : LV) (g : LHeap)  (K : LV → LHeap → Prop) : Prop :=
  Ok Try.prog 33 [x0] g fun t53 g =>
  J38_5 x0 x3 x4 x7 t53 g  K
abbrev kj38_3  (K : LV → LHeap → Prop) : LSt → Prop := fun st => J38_3 (st.tm 0) (st.tm 3) (st.tm 4) (st.tm 7) st.g  K
theorem J38_3_ok  (K : LV → LHeap → Prop) (tm : Nat → LV) (g : LHeap) (h : J38_3 (tm 0) (tm 3) (tm 4) (tm 7) g  K) : codeL Try.prog (Ok Try.prog) (nd38 [1, 1, 1, 1]) ⟨tm, g⟩ (en38 K) := by
  refine seq_i (a := nd38 [1, 1, 1, 1, 0]) (b := nd38 [1, 1, 1, 1, 1]) (k' := kj38_4  K) (by kernel_rfl) (fun st h => J38_4_ok  K st.tm st.g h) ?_
  refine seq_i (a := nd38 [1, 1, 1, 1, 0, 0]) (b := nd38 [1, 1, 1, 1, 0, 1]) (k' := kj38_5  K) (by kernel_rfl) (fun st h => J38_5_ok  K st.tm st.g h) ?_
  try unfold J38_3 at h
  unfold kj38_5
  generalize @J38_5 = Q38_5 at h ⊢
  unfold kj38_4
  generalize @J38_4 = Q38_4 at h ⊢
  refine code2_sound ok_mono _ _ _ ?_
  refine kmp ?_ h
  generalize Ok Try.prog = C
  try unfold en38
  as_aux_lemma => kernel_rfl

noncomputable def B38_8 (x3 x4 x6 x7 x8 x9 : LV) (g : LHeap) (K : LV → LHeap → Prop) : Prop :=
  vK (loadV none x6 g) fun t36 =>
  vK (binL Try.prog .leq 3 false x8 t36) fun t37 =>
  gd t37 false g (fun K => K x9 g) fun t39 g =>
  gd t37 false g (fun K => vK (binL Try.prog .lss 3 true t39 (.int .i64 (1))) fun v => K v g) fun t40 g =>
  vK (pickL t37 (.bool true) t40) fun t41 =>
  gd t41 false g (fun K => K x9 g) fun t43 g =>
  gd t41 false g (fun K => vK (loadV none x3 g) fun v => K v g) fun t44 g =>
  gd t41 false g (fun K => K x8 g) fun t45 g =>
  gd t41 false g (fun K => Ok Try.prog 70 [t44, t45] g K) fun t46 g =>
  gd t41 false g (fun K => vK (binL Try.prog .neq 3 false t43 t46) fun v => K v g) fun t47 g =>
  vK (pickL t41 (.bool true) t47) fun t48 =>
  ifB t48 (
  gK (storeV 1 x4 (.bool false) g) fun g =>
  K (.bool false) g) (
  gK (storeV 1 x6 x8 g) fun g =>
  vK (loadV none x7 g) fun t50 =>
  vK (binL Try.prog .add 3 true t50 (.int .i64 (1))) fun t51 =>
  gK (storeV 1 x7 t51 g) fun g =>
  K (.bool true) g)
theorem B38_8_ok (K : LV → LHeap → Prop) (tm : Nat → LV) (g : LHeap) (h : B38_8 (tm 3) (tm 4) (tm 6) (tm 7) (tm 8) (tm 9) g K) : codeL Try.prog (Ok Try.prog) (nd38 [1, 1, 1, 0, 1, 0, 1]) ⟨tm, g⟩ (rkE K) := by
  try unfold B38_8 at h
  refine code2_sound ok_mono _ _ _ ?_
  refine kmp ?_ h
  generalize Ok Try.prog = C
  try unfold en38
  as_aux_lemma => kernel_rfl

noncomputable def R38_8 (x3 x4 x6 x7 x33 x34 : LV) (rl : Nat) (g : LHeap) (K : LV → LHeap → Prop) : Prop :=
  beginP rl g fun g =>
  B38_8 x3 x4 x6 x7 x33 x34 g (endK rl K)
theorem R38_8_ok (K : LV → LHeap → Prop) (tm : Nat → LV) (rl : Nat) (y0 y1 : LV) (g : LHeap) (h : R38_8 (tm 3) (tm 4) (tm 6) (tm 7) y0 y1 rl g K) : codeL Try.prog (Ok Try.prog) (nd38 [1, 1, 1, 0, 1, 0, 0]) ⟨putAll tm [(33, y0), (34, y1)], g⟩ (roundB Try.prog (Ok Try.prog) rl (nd38 [1, 1, 1, 0, 1, 0, 1]) K) := by
  refine round_glue (fun st => B38_8 (st.tm 3) (st.tm 4) (st.tm 6) (st.tm 7) (st.tm 8) (st.tm 9) st.g (endK rl K)) (fun st h => B38_8_ok (endK rl K) st.tm st.g h) ?_
  try unfold R38_8 at h
  refine code2_sound ok_mono _ _ _ ?_
  refine kmp ?_ h
  generalize Ok Try.prog = C
  try unfold en38
  as_aux_lemma => kernel_rfl

noncomputable def J38_7 (x0 x3 x4 x6 x7 x32 : LV) (g : LHeap)  (K : LV → LHeap → Prop) : Prop :=
  rangeP Try.prog x32 g (fun rl zs g K => ∃ y0, ∃ y1, zs = [y0, y1] ∧ R38_8 x3 x4 x6 x7 y0 y1 rl g K) (fun g => J38_3 x0 x3 x4 x7 g  K) (fun id g => False) (fun g => retC Try.prog [.cell 4 4] [(4, x4)] g K)
abbrev kj38_7  (K : LV → LHeap → Prop) : LSt → Prop := fun st => J38_7 (st.tm 0) (st.tm 3) (st.tm 4) (st.tm 6) (st.tm 7) (st.tm 32) st.g  K
theorem J38_7_ok  (K : LV → LHeap → Prop) (tm : Nat → LV) (g : LHeap) (h : J38_7 (tm 0) (tm 3) (tm 4) (tm 6) (tm 7) (tm 32) g  K) : codeL Try.prog (Ok Try.prog) (nd38 [1, 1, 1, 0, 1]) ⟨tm, g⟩ (thenL (kj38_3  K) (en38 K)) := by
  refine block_i (b := nd38 [1, 1, 1, 0, 1, 0]) (i := 2) (by kernel_rfl) ?_
  exact range_glue Try.mixed (f := .tmp 32) (ps := #[33, 34]) (asg := nd38 [1, 1, 1, 0, 1, 0, 0]) (body := nd38 [1, 1, 1, 0, 1, 0, 1]) (by kernel_rfl) (fun tm : Nat → LV => (tm 3, tm 4, tm 6, tm 7)) (fun a => (fun rl zs g K => ∃ y0, ∃ y1, zs = [y0, y1] ∧ R38_8 a.1 a.2.1 a.2.2.1 a.2.2.2 y0 y1 rl g K)) (fun tm rl zs g K h => by
    obtain ⟨y0, y1, rfl, h⟩ := h
    exact ⟨rfl, R38_8_ok K tm rl y0 y1 g h⟩) tm g (fun _ h => h) (fun _ _ h => h.elim) (fun _ h => h) h

noncomputable def J38_2 (x0 x3 x4 x6 x7 : LV) (g : LHeap)  (K : LV → LHeap → Prop) : Prop :=
  Ok Try.prog 33 [x0] g fun t32 g =>
  J38_7 x0 x3 x4 x6 x7 t32 g  K
abbrev kj38_2  (K : LV → LHeap → Prop) : LSt → Prop := fun st => J38_2 (st.tm 0) (st.tm 3) (st.tm 4) (st.tm 6) (st.tm 7) st.g  K
theorem J38_2_ok  (K : LV → LHeap → Prop) (tm : Nat → LV) (g : LHeap) (h : J38_2 (tm 0) (tm 3) (tm 4) (tm 6) (tm 7) g  K) : codeL Try.prog (Ok Try.prog) (nd38 [1, 1, 1]) ⟨tm, g⟩ (en38 K) := by
  refine seq_i (a := nd38 [1, 1, 1, 0]) (b := nd38 [1, 1, 1, 1]) (k' := kj38_3  K) (by kernel_rfl) (fun st h => J38_3_ok  K st.tm st.g h) ?_
  refine seq_i (a := nd38 [1, 1, 1, 0, 0]) (b := nd38 [1, 1, 1, 0, 1]) (k' := kj38_7  K) (by kernel_rfl) (fun st h => J38_7_ok  K st.tm st.g h) ?_
  try unfold J38_2 at h
  unfold kj38_7
  generalize @J38_7 = Q38_7 at h ⊢
  unfold kj38_3
  generalize @J38_3 = Q38_3 at h ⊢
  refine code2_sound ok_mono _ _ _ ?_
  refine kmp ?_ h
  generalize Ok Try.prog = C
  try unfold en38
  as_aux_lemma => kernel_rfl

noncomputable def J38_1 (x0 x3 x4 : LV) (g : LHeap)  (K : LV → LHeap → Prop) : Prop :=
  oK (newL (.int .i64 (0)) g) fun t6 g =>
  oK (newL (.int .i64 (0)) g) fun t7 g =>
  gK (storeV 1 t6 (.int .i64 (-1)) g) fun g =>
  gK (storeV 1 t7 (.int .i64 (0)) g) fun g =>
  J38_2 x0 x3 x4 t6 t7 g  K
abbrev kj38_1  (K : LV → LHeap → Prop) : LSt → Prop := fun st => J38_1 (st.tm 0) (st.tm 3) (st.tm 4) st.g  K
theorem J38_1_ok  (K : LV → LHeap → Prop) (tm : Nat → LV) (g : LHeap) (h : J38_1 (tm 0) (tm 3) (tm 4) g  K) : codeL Try.prog (Ok Try.prog) (nd38 [1, 1]) ⟨tm, g⟩ (en38 K) := by
  refine seq_i (a := nd38 [1, 1, 0]) (b := nd38 [1, 1, 1]) (k' := kj38_2  K) (by kernel_rfl) (fun st h => J38_2_ok  K st.tm st.g h) ?_
  try unfold J38_1 at h
  unfold kj38_2
  generalize @J38_2 = Q38_2 at h ⊢
  refine code2_sound ok_mono _ _ _ ?_
  refine kmp ?_ h
  generalize Ok Try.prog = C
  try unfold en38
  as_aux_lemma => kernel_rfl

noncomputable def L38_10 (x0 x3 x4 x14 : LV) (x15 : LV) (g : LHeap) (N10 : LV → LHeap → Prop) (K : LV → LHeap → Prop) : Prop :=
  vK (binL Try.prog .lss 3 false x15 x14) fun t16 =>
  ifB t16 (
  vK (loadV none x3 g) fun t21 =>
  vK (nilCheckL t21) fun t22 =>
  vK (fieldAddrL 2 t22) fun t23 =>
  vK (loadV none t23 g) fun t24 =>
  vK (ixAddrL none 1 t24 x15) fun t26 =>
  vK (loadV none t26 g) fun t27 =>
  ((Ok Try.prog 31 [x0, x15] g fun t20 g =>
  ((loadV none t26 g) = some t27 ∧ ((loadV none t23 g) = some t24 ∧ ((loadV none x3 g) = some t21 ∧ 
  ((Ok Try.prog 51 [t20, t27] g fun t28 g =>
  
  vK (unL .not t28) fun t29 =>
  ifB t29 (
  gK (storeV 1 x4 (.bool false) g) fun g =>
  retC Try.prog [.cell 4 4] [(4, x4)] g K) (
  vK (binL Try.prog .add 3 true x15 (.int .i64 (1))) fun t30 =>
  N10 t30 g)) ∧ True))))) ∧ True)) (
  J38_1 x0 x3 x4 g  K)
theorem L38_10_ok (R10 : LV × LV × LV × LV → LV → LHeap → Prop) (K : LV → LHeap → Prop) (tm : Nat → LV) (g : LHeap) (h : L38_10 (tm 0) (tm 3) (tm 4) (tm 14) (tm 15) g (fun s g => R10 ((tm 0), (tm 3), (tm 4), (tm 14)) s g) K) : codeL Try.prog (Ok Try.prog) (nd38 [1, 0, 1, 0, 0]) ⟨tm, g⟩ (roundK (fun tm : Nat → LV => (tm 0, tm 3, tm 4, tm 14)) (fun tm : Nat → LV => tm 15) R10 (exitL 0 (thenL (kj38_1  K) (en38 K)))) := by
  try unfold L38_10 at h
  unfold kj38_1
  generalize @J38_1 = Q38_1 at h ⊢
  refine code2_sound ok_mono _ _ _ ?_
  refine kmp ?_ h
  generalize Ok Try.prog = C
  try unfold en38
  as_aux_lemma => kernel_rfl

noncomputable def J38_9 (x0 x3 x4 x14 x15 : LV) (g : LHeap)  (K : LV → LHeap → Prop) : Prop :=
  loopP (fun s g N => L38_10 x0 x3 x4 x14 s g N  K) x15 g
abbrev kj38_9  (K : LV → LHeap → Prop) : LSt → Prop := fun st => J38_9 (st.tm 0) (st.tm 3) (st.tm 4) (st.tm 14) (st.tm 15) st.g  K
theorem J38_9_ok  (K : LV → LHeap → Prop) (tm : Nat → LV) (g : LHeap) (h : J38_9 (tm 0) (tm 3) (tm 4) (tm 14) (tm 15) g  K) : codeL Try.prog (Ok Try.prog) (nd38 [1, 0, 1]) ⟨tm, g⟩ (thenL (kj38_1  K) (en38 K)) := by
  refine block_i (b := nd38 [1, 0, 1, 0]) (i := 0) (by kernel_rfl) ?_
  exact loop_glue (b := nd38 [1, 0, 1, 0, 0]) (by kernel_rfl) (fun tm : Nat → LV => (tm 0, tm 3, tm 4, tm 14)) (fun tm : Nat → LV => tm 15) (fun a s g N => L38_10 a.1 a.2.1 a.2.2.1 a.2.2.2 s g N  K) (fun tm g R h => L38_10_ok R  K tm g h) tm g h

noncomputable def J38_0 (x0 x3 x4 : LV) (g : LHeap)  (K : LV → LHeap → Prop) : Prop :=
  vK (loadV none x3 g) fun t10 =>
  vK (nilCheckL t10) fun t11 =>
  vK (fieldAddrL 2 t11) fun t12 =>
  vK (loadV none t12 g) fun t13 =>
  oK (builtinL Try.prog .len [103] [t13] g) fun t14 g =>
  J38_9 x0 x3 x4 t14 (.int .i64 (0)) g  K
abbrev kj38_0  (K : LV → LHeap → Prop) : LSt → Prop := fun st => J38_0 (st.tm 0) (st.tm 3) (st.tm 4) st.g  K
theorem J38_0_ok  (K : LV → LHeap → Prop) (tm : Nat → LV) (g : LHeap) (h : J38_0 (tm 0) (tm 3) (tm 4) g  K) : codeL Try.prog (Ok Try.prog) (nd38 [1]) ⟨tm, g⟩ (en38 K) := by
  refine seq_i (a := nd38 [1, 0]) (b := nd38 [1, 1]) (k' := kj38_1  K) (by kernel_rfl) (fun st h => J38_1_ok  K st.tm st.g h) ?_
  refine seq_i (a := nd38 [1, 0, 0]) (b := nd38 [1, 0, 1]) (k' := kj38_9  K) (by kernel_rfl) (fun st h => J38_9_ok  K st.tm st.g h) ?_
  try unfold J38_0 at h
  unfold kj38_9
  generalize @J38_9 = Q38_9 at h ⊢
  unfold kj38_1
  generalize @J38_1 = Q38_1 at h ⊢
  refine code2_sound ok_mono _ _ _ ?_
  refine kmp ?_ h
  generalize Ok Try.prog = C
  try unfold en38
  as_aux_lemma => kernel_rfl

noncomputable def F38 (x0 x1 : LV) (g : LHeap) (K : LV → LHeap → Prop) : Prop :=
  oK (newL x1 g) fun t3 g =>
  oK (newL (.bool false) g) fun t4 g =>
  J38_0 x0 t3 t4 g  K
theorem ok38 {x0 x1 : LV} {g : LHeap} {K : LV → LHeap → Prop} (h : g.Wf → (∀ v ∈ ([x0, x1] : List LV), ∀ b ∈ v.objs, b < g.next) → F38 x0 x1 g K) : Ok Try.prog 38 [x0, x1] g K := by
  refine ok_fw Try.mixed Try.func38 (by kernel_rfl) (by kernel_rfl) (c := nd38 []) (by kernel_rfl) fun wf lt => ?_
  rw [← en38_eq]
  replace h := h wf lt
  generalize hs : startL _ = tm
  replace h : F38 (tm 0) (tm 1) g K := by rw [← hs]; exact h
  refine seq_i (a := nd38 [0]) (b := nd38 [1]) (k' := kj38_0  K) (by kernel_rfl) (fun st h => J38_0_ok  K st.tm st.g h) ?_
  try unfold F38 at h
  unfold kj38_0
  generalize @J38_0 = Q38_0 at h ⊢
  refine code2_sound ok_mono _ _ _ ?_
  refine kmp ?_ h
  generalize Ok Try.prog = C
  try unfold en38
  as_aux_lemma => kernel_rfl

/-! parapet/parapetref06.New (63 slots) -/
noncomputable def en36 (K : LV → LHeap → Prop) : LEx → LSt → Prop := fun e st => match e with
  | .exit _ => False
  | _ => K (.tuple [(st.tm 8), (st.tm 9)]) st.g
theorem en36_eq (K : LV → LHeap → Prop) : en36 K = endL Try.prog Try.f36 K := by
  funext e st
  cases e <;> kernel_rfl
noncomputable def nd36 (p : List Nat) : Code := subC p (bodyC Try.prog 36)
noncomputable def J36_3 (x10 : LV) (g : LHeap)  (K : LV → LHeap → Prop) : Prop :=
  K (.tuple [x10, (.int .i64 (0))]) g
abbrev kj36_3  (K : LV → LHeap → Prop) : LSt → Prop := fun st => J36_3 (st.tm 10) st.g  K
theorem J36_3_ok  (K : LV → LHeap → Prop) (tm : Nat → LV) (g : LHeap) (h : J36_3 (tm 10) g  K) : codeL Try.prog (Ok Try.prog) (nd36 [1, 1, 1, 1]) ⟨tm, g⟩ (en36 K) := by
  try unfold J36_3 at h
  refine code2_sound ok_mono _ _ _ ?_
  refine kmp ?_ h
  generalize Ok Try.prog = C
  try unfold en36
  as_aux_lemma => kernel_rfl

noncomputable def L36_5 (x1 x2 x10 : LV) (x11 : LV) (g : LHeap) (N5 : LV → LHeap → Prop) (K : LV → LHeap → Prop) : Prop :=
  vK (binL Try.prog .lss 3 false x11 x2) fun t47 =>
  ifB t47 (
  vK (nilCheckL x10) fun t52 =>
  vK (fieldAddrL 3 t52) fun t53 =>
  vK (loadV none t53 g) fun t54 =>
  vK (binL Try.prog .add 3 false x1 x11) fun t57 =>
  oK (buildSliceL Try.prog 50 1 [(0, t57)] g) fun t58 g =>
  oK (builtinL Try.prog .append [50, 50] [t54, t58] g) fun t59 g =>
  vK (nilCheckL x10) fun t60 =>
  vK (fieldAddrL 3 t60) fun t61 =>
  gK (storeV 1 t61 t59 g) fun g =>
  vK (binL Try.prog .add 3 true x11 (.int .i64 (1))) fun t49 =>
  N5 t49 g) (
  J36_3 x10 g  K)
theorem L36_5_ok (R5 : LV × LV × LV → LV → LHeap → Prop) (K : LV → LHeap → Prop) (tm : Nat → LV) (g : LHeap) (h : L36_5 (tm 1) (tm 2) (tm 10) (tm 11) g (fun s g => R5 ((tm 1), (tm 2), (tm 10)) s g) K) : codeL Try.prog (Ok Try.prog) (nd36 [1, 1, 1, 0, 1, 0, 0]) ⟨tm, g⟩ (roundK (fun tm : Nat → LV => (tm 1, tm 2, tm 10)) (fun tm : Nat → LV => tm 11) R5 (exitL 0 (thenL (kj36_3  K) (en36 K)))) := by
  try unfold L36_5 at h
  unfold kj36_3
  generalize @J36_3 = Q36_3 at h ⊢
  refine code2_sound ok_mono _ _ _ ?_
  refine kmp ?_ h
  generalize Ok Try.prog = C
  try unfold en36
  as_aux_lemma => kernel_rfl

noncomputable def J36_4 (x1 x2 x10 x11 : LV) (g : LHeap)  (K : LV → LHeap → Prop) : Prop :=
  loopP (fun s g N => L36_5 x1 x2 x10 s g N  K) x11 g
abbrev kj36_4  (K : LV → LHeap → Prop) : LSt → Prop := fun st => J36_4 (st.tm 1) (st.tm 2) (st.tm 10) (st.tm 11) st.g  K
theorem J36_4_ok  (K : LV → LHeap → Prop) (tm : Nat → LV) (g : LHeap) (h : J36_4 (tm 1) (tm 2) (tm 10) (tm 11) g  K) : codeL Try.prog (Ok Try.prog) (nd36 [1, 1, 1, 0, 1]) ⟨tm, g⟩ (thenL (kj36_3  K) (en36 K)) := by
  refine block_i (b := nd36 [1, 1, 1, 0, 1, 0]) (i := 0) (by kernel_rfl) ?_
  exact loop_glue (b := nd36 [1, 1, 1, 0, 1, 0, 0]) (by kernel_rfl) (fun tm : Nat → LV => (tm 1, tm 2, tm 10)) (fun tm : Nat → LV => tm 11) (fun a s g N => L36_5 a.1 a.2.1 a.2.2 s g N  K) (fun tm g R h => L36_5_ok R  K tm g h) tm g h

noncomputable def J36_2 (x1 x2 x10 : LV) (g : LHeap)  (K : LV → LHeap → Prop) : Prop :=
  J36_4 x1 x2 x10 (.int .i64 (0)) g  K
abbrev kj36_2  (K : LV → LHeap → Prop) : LSt → Prop := fun st => J36_2 (st.tm 1) (st.tm 2) (st.tm 10) st.g  K
theorem J36_2_ok  (K : LV → LHeap → Prop) (tm : Nat → LV) (g : LHeap) (h : J36_2 (tm 1) (tm 2) (tm 10) g  K) : codeL Try.prog (Ok Try.prog) (nd36 [1, 1, 1]) ⟨tm, g⟩ (en36 K) := by
  refine seq_i (a := nd36 [1, 1, 1, 0]) (b := nd36 [1, 1, 1, 1]) (k' := kj36_3  K) (by kernel_rfl) (fun st h => J36_3_ok  K st.tm st.g h) ?_
  refine seq_i (a := nd36 [1, 1, 1, 0, 0]) (b := nd36 [1, 1, 1, 0, 1]) (k' := kj36_4  K) (by kernel_rfl) (fun st h => J36_4_ok  K st.tm st.g h) ?_
  try unfold J36_2 at h
  unfold kj36_4
  generalize @J36_4 = Q36_4 at h ⊢
  unfold kj36_3
  generalize @J36_3 = Q36_3 at h ⊢
  refine code2_sound ok_mono _ _ _ ?_
  refine kmp ?_ h
  generalize Ok Try.prog = C
  try unfold en36
  as_aux_lemma => kernel_rfl

noncomputable def J36_1 (x1 x2 x3 : LV) (g : LHeap)  (K : LV → LHeap → Prop) : Prop :=
  ((oK (makeSliceL Try.prog 50 x2 x2 g) fun t40 g =>
  
  ((oK (makeSliceL Try.prog 103 x3 x3 g) fun t42 g =>
  
  vK (buildL Try.prog 111 [(0, x1), (1, t40), (2, t42)]) fun t43 =>
  ((oK (newL t43 g) fun t44 g =>
  
  J36_2 x1 x2 t44 g  K) ∧ True)) ∧ True)) ∧ ((oK (makeSliceL Try.prog 103 x3 x3 g) fun t42 g =>
  
  ((oK (makeSliceL Try.prog 50 x2 x2 g) fun t40 g =>
  
  vK (buildL Try.prog 111 [(0, x1), (1, t40), (2, t42)]) fun t43 =>
  ((oK (newL t43 g) fun t44 g =>
  
  J36_2 x1 x2 t44 g  K) ∧ True)) ∧ True)) ∧ True))
abbrev kj36_1  (K : LV → LHeap → Prop) : LSt → Prop := fun st => J36_1 (st.tm 1) (st.tm 2) (st.tm 3) st.g  K
theorem J36_1_ok  (K : LV → LHeap → Prop) (tm : Nat → LV) (g : LHeap) (h : J36_1 (tm 1) (tm 2) (tm 3) g  K) : codeL Try.prog (Ok Try.prog) (nd36 [1, 1]) ⟨tm, g⟩ (en36 K) := by
  refine seq_i (a := nd36 [1, 1, 0]) (b := nd36 [1, 1, 1]) (k' := kj36_2  K) (by kernel_rfl) (fun st h => J36_2_ok  K st.tm st.g h) ?_
  try unfold J36_1 at h
  unfold kj36_2
  generalize @J36_2 = Q36_2 at h ⊢
  refine code2_sound ok_mono _ _ _ ?_
  refine kmp ?_ h
  generalize Ok Try.prog = C
  try unfold en36
  as_aux_lemma => kernel_rfl

noncomputable def J36_0 (x0 x1 x2 x3 : LV) (g : LHeap)  (K : LV → LHeap → Prop) : Prop :=
  vK (binL Try.prog .lss 3 true x3 (.int .i64 (1))) fun t13 =>
  gd t13 false g (fun K => K x3 g) fun t15 g =>
  gd t13 false g (fun K => vK (binL Try.prog .gtr 3 true t15 (.int .i64 (8))) fun v => K v g) fun t16 g =>
  vK (pickL t13 (.bool true) t16) fun t17 =>
  gd t17 false g (fun K => K x2 g) fun t19 g =>
  gd t17 false g (fun K => vK (binL Try.prog .lss 3 true t19 (.int .i64 (1))) fun v => K v g) fun t20 g =>
  vK (pickL t17 (.bool true) t20) fun t21 =>
  gd t21 false g (fun K => K x1 g) fun t23 g =>
  gd t21 false g (fun K => vK (binL Try.prog .lss 3 true t23 (.int .i64 (0))) fun v => K v g) fun t24 g =>
  vK (pickL t21 (.bool true) t24) fun t25 =>
  gd t25 false g (fun K => K x1 g) fun t27 g =>
  gd t25 false g (fun K => K x0 g) fun t28 g =>
  gd t25 false g (fun K => vK (binL Try.prog .geq 3 false t27 t28) fun v => K v g) fun t29 g =>
  vK (pickL t25 (.bool true) t29) fun t30 =>
  gd t30 false g (fun K => K x2 g) fun t32 g =>
  gd t30 false g (fun K => K x0 g) fun t33 g =>
  gd t30 false g (fun K => K x1 g) fun t34 g =>
  gd t30 false g (fun K => vK (binL Try.prog .sub 3 false t33 t34) fun v => K v g) fun t35 g =>
  gd t30 false g (fun K => vK (binL Try.prog .gtr 3 false t32 t35) fun v => K v g) fun t36 g =>
  vK (pickL t30 (.bool true) t36) fun t37 =>
  ifB t37 (
  K (.tuple [.nilp, (.int .i64 (1))]) g) (
  J36_1 x1 x2 x3 g  K)
abbrev kj36_0  (K : LV → LHeap → Prop) : LSt → Prop := fun st => J36_0 (st.tm 0) (st.tm 1) (st.tm 2) (st.tm 3) st.g  K
theorem J36_0_ok  (K : LV → LHeap → Prop) (tm : Nat → LV) (g : LHeap) (h : J36_0 (tm 0) (tm 1) (tm 2) (tm 3) g  K) : codeL Try.prog (Ok Try.prog) (nd36 [1]) ⟨tm, g⟩ (en36 K) := by
  refine seq_i (a := nd36 [1, 0]) (b := nd36 [1, 1]) (k' := kj36_1  K) (by kernel_rfl) (fun st h => J36_1_ok  K st.tm st.g h) ?_
  try unfold J36_0 at h
  unfold kj36_1
  generalize @J36_1 = Q36_1 at h ⊢
  refine code2_sound ok_mono _ _ _ ?_
  refine kmp ?_ h
  generalize Ok Try.prog = C
  try unfold en36
  as_aux_lemma => kernel_rfl

noncomputable def F36 (x0 x1 x2 x3 : LV) (g : LHeap) (K : LV → LHeap → Prop) : Prop :=
  J36_0 x0 x1 x2 x3 g  K
theorem ok36 {x0 x1 x2 x3 : LV} {g : LHeap} {K : LV → LHeap → Prop} (h : g.Wf → (∀ v ∈ ([x0, x1, x2, x3] : List LV), ∀ b ∈ v.objs, b < g.next) → F36 x0 x1 x2 x3 g K) : Ok Try.prog 36 [x0, x1, x2, x3] g K := by
  refine ok_fw Try.mixed Try.func36 (by kernel_rfl) (by kernel_rfl) (c := nd36 []) (by kernel_rfl) fun wf lt => ?_
  rw [← en36_eq]
  replace h := h wf lt
  generalize hs : startL _ = tm
  replace h : F36 (tm 0) (tm 1) (tm 2) (tm 3) g K := by rw [← hs]; exact h
  refine seq_i (a := nd36 [0]) (b := nd36 [1]) (k' := kj36_0  K) (by kernel_rfl) (fun st h => J36_0_ok  K st.tm st.g h) ?_
  try unfold F36 at h
  unfold kj36_0
  generalize @J36_0 = Q36_0 at h ⊢
  refine code2_sound ok_mono _ _ _ ?_
  refine kmp ?_ h
  generalize Ok Try.prog = C
  try unfold en36
  as_aux_lemma => kernel_rfl

/-! (*parapet/parapetref06.Frames).Count (37 slots) -/
noncomputable def en70 (K : LV → LHeap → Prop) : LEx → LSt → Prop := fun e st => match e with
  | .exit _ => False
  | _ => K (st.tm 4) st.g
theorem en70_eq (K : LV → LHeap → Prop) : en70 K = endL Try.prog Try.f70 K := by
  funext e st
  cases e <;> kernel_rfl
noncomputable def nd70 (p : List Nat) : Code := subC p (bodyC Try.prog 70)
noncomputable def F70 (x0 x1 : LV) (g : LHeap) (K : LV → LHeap → Prop) : Prop :=
  vK (nilCheckL x0) fun t7 =>
  vK (fieldAddrL 0 t7) fun t8 =>
  vK (loadV none t8 g) fun t9 =>
  vK (binL Try.prog .lss 3 false x1 t9) fun t10 =>
  gdV t10 false (some x1) fun t12 =>
  gdV t10 false (some x0) fun t13 =>
  gdV t10 false (nilCheckL t13) fun t14 =>
  gdV t10 false (fieldAddrL 0 t14) fun t15 =>
  gdV t10 false (loadV none t15 g) fun t16 =>
  gdV t10 false (binL Try.prog .sub 3 false t12 t16) fun t17 =>
  gdV t10 false (some x0) fun t18 =>
  gdV t10 false (nilCheckL t18) fun t19 =>
  gdV t10 false (fieldAddrL 1 t19) fun t20 =>
  gdV t10 false (loadV none t20 g) fun t21 =>
  gdV t10 false (lenL Try.prog 50 t21 g) fun t22 =>
  gdV t10 false (binL Try.prog .geq 3 false t17 t22) fun t23 =>
  vK (pickL t10 (.bool true) t23) fun t24 =>
  ifB t24 (
  K (.int .i64 (0)) g) (
  vK (nilCheckL x0) fun t26 =>
  vK (fieldAddrL 1 t26) fun t27 =>
  vK (loadV none t27 g) fun t28 =>
  vK (nilCheckL x0) fun t31 =>
  vK (fieldAddrL 0 t31) fun t32 =>
  vK (loadV none t32 g) fun t33 =>
  vK (binL Try.prog .sub 3 false x1 t33) fun t34 =>
  vK (ixAddrL none 1 t28 t34) fun t35 =>
  vK (loadV none t35 g) fun t36 =>
  K t36 g)
theorem ok70 {x0 x1 : LV} {g : LHeap} {K : LV → LHeap → Prop} (h : g.Wf → (∀ v ∈ ([x0, x1] : List LV), ∀ b ∈ v.objs, b < g.next) → F70 x0 x1 g K) : Ok Try.prog 70 [x0, x1] g K := by
  refine ok_fw Try.mixed Try.func70 (by kernel_rfl) (by kernel_rfl) (c := nd70 []) (by kernel_rfl) fun wf lt => ?_
  rw [← en70_eq]
  replace h := h wf lt
  generalize hs : startL _ = tm
  replace h : F70 (tm 0) (tm 1) g K := by rw [← hs]; exact h
  try unfold F70 at h
  refine code3_sound ok_mono (pl := [(1, (.lt 0 false (.lt 1 false (.lt 2 false (.lt 3 false (.lt 4 false (.lt 5 false (.lt 6 false (.lt 7 false (.lt 8 false (.lt 9 false (.lt 10 false (.lt 11 false (.lt 12 false (.lt 13 false (.lt 14 false (.lt 15 false (.lt 16 false (.lt 17 false (.lt 18 false (.lt 19 false .nil))))))))))))))))))))), (3, (.lt 0 false (.lt 1 false (.lt 2 false (.lt 3 false (.lt 4 false (.lt 5 false (.lt 6 false (.lt 7 false (.lt 8 false (.lt 9 false (.lt 10 false (.lt 11 false (.lt 12 false .nil))))))))))))))]) _ _ _ (by kernel_rfl) ?_
  refine kmp ?_ h
  generalize Ok Try.prog = C
  try unfold en70
  as_aux_lemma => kernel_rfl

/-! (*parapet/parapetref06.Frames).Used (21 slots) -/
noncomputable def en71 (K : LV → LHeap → Prop) : LEx → LSt → Prop := fun e st => match e with
  | .exit _ => False
  | _ => K (st.tm 2) st.g
theorem en71_eq (K : LV → LHeap → Prop) : en71 K = endL Try.prog Try.f71 K := by
  funext e st
  cases e <;> kernel_rfl
noncomputable def nd71 (p : List Nat) : Code := subC p (bodyC Try.prog 71)
noncomputable def J71_2 (x3 : LV) (g : LHeap)  (K : LV → LHeap → Prop) : Prop :=
  K x3 g
abbrev kj71_2  (K : LV → LHeap → Prop) : LSt → Prop := fun st => J71_2 (st.tm 3) st.g  K
theorem J71_2_ok  (K : LV → LHeap → Prop) (tm : Nat → LV) (g : LHeap) (h : J71_2 (tm 3) g  K) : codeL Try.prog (Ok Try.prog) (nd71 [1, 1, 1]) ⟨tm, g⟩ (en71 K) := by
  try unfold J71_2 at h
  refine code2_sound ok_mono _ _ _ ?_
  refine kmp ?_ h
  generalize Ok Try.prog = C
  try unfold en71
  as_aux_lemma => kernel_rfl

noncomputable def L71_4 (x9 x10 : LV) (x3 x11 : LV) (g : LHeap) (N4 : LV × LV → LHeap → Prop) (K : LV → LHeap → Prop) : Prop :=
  vK (binL Try.prog .lss 3 false x11 x10) fun t12 =>
  ifB t12 (
  vK (ixAddrL none 1 x9 x11) fun t13 =>
  vK (loadV none t13 g) fun t14 =>
  vK (binL Try.prog .gtr 3 true t14 (.int .i64 (0))) fun t16 =>
  ifB t16 (
  vK (binL Try.prog .add 3 true x3 (.int .i64 (1))) fun t18 =>
  vK (binL Try.prog .add 3 true x11 (.int .i64 (1))) fun t19 =>
  N4 (t18, t19) g) (
  vK (binL Try.prog .add 3 true x11 (.int .i64 (1))) fun t19 =>
  N4 (x3, t19) g)) (
  J71_2 x3 g  K)
theorem L71_4_ok (R4 : LV × LV → LV × LV → LHeap → Prop) (K : LV → LHeap → Prop) (tm : Nat → LV) (g : LHeap) (h : L71_4 (tm 9) (tm 10) (tm 3) (tm 11) g (fun s g => R4 ((tm 9), (tm 10)) s g) K) : codeL Try.prog (Ok Try.prog) (nd71 [1, 1, 0, 1, 0, 0]) ⟨tm, g⟩ (roundK (fun tm : Nat → LV => (tm 9, tm 10)) (fun tm : Nat → LV => (tm 3, tm 11)) R4 (exitL 0 (thenL (kj71_2  K) (en71 K)))) := by
  try unfold L71_4 at h
  unfold kj71_2
  generalize @J71_2 = Q71_2 at h ⊢
  refine code2_sound ok_mono _ _ _ ?_
  refine kmp ?_ h
  generalize Ok Try.prog = C
  try unfold en71
  as_aux_lemma => kernel_rfl

noncomputable def J71_3 (x3 x9 x10 x11 : LV) (g : LHeap)  (K : LV → LHeap → Prop) : Prop :=
  loopP (fun s g N => L71_4 x9 x10 s.1 s.2 g N  K) (x3, x11) g
abbrev kj71_3  (K : LV → LHeap → Prop) : LSt → Prop := fun st => J71_3 (st.tm 3) (st.tm 9) (st.tm 10) (st.tm 11) st.g  K
theorem J71_3_ok  (K : LV → LHeap → Prop) (tm : Nat → LV) (g : LHeap) (h : J71_3 (tm 3) (tm 9) (tm 10) (tm 11) g  K) : codeL Try.prog (Ok Try.prog) (nd71 [1, 1, 0, 1]) ⟨tm, g⟩ (thenL (kj71_2  K) (en71 K)) := by
  refine block_i (b := nd71 [1, 1, 0, 1, 0]) (i := 0) (by kernel_rfl) ?_
  exact loop_glue (b := nd71 [1, 1, 0, 1, 0, 0]) (by kernel_rfl) (fun tm : Nat → LV => (tm 9, tm 10)) (fun tm : Nat → LV => (tm 3, tm 11)) (fun a s g N => L71_4 a.1 a.2 s.1 s.2 g N  K) (fun tm g R h => L71_4_ok R  K tm g h) tm g h

noncomputable def J71_1 (x0 x3 : LV) (g : LHeap)  (K : LV → LHeap → Prop) : Prop :=
  vK (nilCheckL x0) fun t7 =>
  vK (fieldAddrL 1 t7) fun t8 =>
  vK (loadV none t8 g) fun t9 =>
  oK (builtinL Try.prog .len [50] [t9] g) fun t10 g =>
  J71_3 x3 t9 t10 (.int .i64 (0)) g  K
abbrev kj71_1  (K : LV → LHeap → Prop) : LSt → Prop := fun st => J71_1 (st.tm 0) (st.tm 3) st.g  K
theorem J71_1_ok  (K : LV → LHeap → Prop) (tm : Nat → LV) (g : LHeap) (h : J71_1 (tm 0) (tm 3) g  K) : codeL Try.prog (Ok Try.prog) (nd71 [1, 1]) ⟨tm, g⟩ (en71 K) := by
  refine seq_i (a := nd71 [1, 1, 0]) (b := nd71 [1, 1, 1]) (k' := kj71_2  K) (by kernel_rfl) (fun st h => J71_2_ok  K st.tm st.g h) ?_
  refine seq_i (a := nd71 [1, 1, 0, 0]) (b := nd71 [1, 1, 0, 1]) (k' := kj71_3  K) (by kernel_rfl) (fun st h => J71_3_ok  K st.tm st.g h) ?_
  try unfold J71_1 at h
  unfold kj71_3
  generalize @J71_3 = Q71_3 at h ⊢
  unfold kj71_2
  generalize @J71_2 = Q71_2 at h ⊢
  refine code2_sound ok_mono _ _ _ ?_
  refine kmp ?_ h
  generalize Ok Try.prog = C
  try unfold en71
  as_aux_lemma => kernel_rfl

noncomputable def J71_0 (x0 : LV) (g : LHeap)  (K : LV → LHeap → Prop) : Prop :=
  J71_1 x0 (.int .i64 (0)) g  K
abbrev kj71_0  (K : LV → LHeap → Prop) : LSt → Prop := fun st => J71_0 (st.tm 0) st.g  K
theorem J71_0_ok  (K : LV → LHeap → Prop) (tm : Nat → LV) (g : LHeap) (h : J71_0 (tm 0) g  K) : codeL Try.prog (Ok Try.prog) (nd71 [1]) ⟨tm, g⟩ (en71 K) := by
  refine seq_i (a := nd71 [1, 0]) (b := nd71 [1, 1]) (k' := kj71_1  K) (by kernel_rfl) (fun st h => J71_1_ok  K st.tm st.g h) ?_
  try unfold J71_0 at h
  unfold kj71_1
  generalize @J71_1 = Q71_1 at h ⊢
  refine code2_sound ok_mono _ _ _ ?_
  refine kmp ?_ h
  generalize Ok Try.prog = C
  try unfold en71
  as_aux_lemma => kernel_rfl

noncomputable def F71 (x0 : LV) (g : LHeap) (K : LV → LHeap → Prop) : Prop :=
  J71_0 x0 g  K
theorem ok71 {x0 : LV} {g : LHeap} {K : LV → LHeap → Prop} (h : g.Wf → (∀ v ∈ ([x0] : List LV), ∀ b ∈ v.objs, b < g.next) → F71 x0 g K) : Ok Try.prog 71 [x0] g K := by
  refine ok_fw Try.mixed Try.func71 (by kernel_rfl) (by kernel_rfl) (c := nd71 []) (by kernel_rfl) fun wf lt => ?_
  rw [← en71_eq]
  replace h := h wf lt
  generalize hs : startL _ = tm
  replace h : F71 (tm 0) g K := by rw [← hs]; exact h
  refine seq_i (a := nd71 [0]) (b := nd71 [1]) (k' := kj71_0  K) (by kernel_rfl) (fun st h => J71_0_ok  K st.tm st.g h) ?_
  try unfold F71 at h
  unfold kj71_0
  generalize @J71_0 = Q71_0 at h ⊢
  refine code2_sound ok_mono _ _ _ ?_
  refine kmp ?_ h
  generalize Ok Try.prog = C
  try unfold en71
  as_aux_lemma => kernel_rfl

end Go.Proofs.Ytoajcekgoalhjaa
