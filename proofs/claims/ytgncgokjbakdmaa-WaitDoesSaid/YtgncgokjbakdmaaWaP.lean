/-
  Functions of the program, as texts of named values.
-/
import Derived.Test.YtgncgokjbakdmaaWa0
set_option linter.all false
namespace Go.Proofs.Ytgncgokjbakdmaa
open Go.ChangeShapes Go.WideShapes Go.ChangeAt Go.RowKit Go.Lm
set_option maxRecDepth 1000000
set_option linter.unusedVariables false
/-! parapet/waitq.New (5 slots) -/
noncomputable def en12 (K : LV → LHeap → Prop) : LEx → LSt → Prop := fun e st => match e with
  | .exit _ => False
  | _ => K (st.tm 0) st.g
theorem en12_eq (K : LV → LHeap → Prop) : en12 K = endL Try.prog Try.f12 K := by
  funext e st
  cases e <;> kernel_rfl
noncomputable def nd12 (p : List Nat) : Code := subC p (bodyC Try.prog 12)
noncomputable def F12 (g : LHeap) (K : LV → LHeap → Prop) : Prop :=
  mkK (.map g.next) (g.alloc (.map [] 0 .ex)) fun t1 g =>
  mkK (.map g.next) (g.alloc (.map [] 0 .ex)) fun t2 g =>
  vK (buildL Try.prog 82 [(0, t1), (1, t2)]) fun t3 =>
  oK (newL t3 g) fun t4 g =>
  K t4 g
theorem ok12 {g : LHeap} {K : LV → LHeap → Prop} (h : g.Wf → (∀ v ∈ ([] : List LV), ∀ b ∈ v.objs, b < g.next) → F12  g K) : Ok Try.prog 12 [] g K := by
  refine ok_fw Try.mixed Try.func12 (by kernel_rfl) (by kernel_rfl) (c := nd12 []) (by kernel_rfl) fun wf lt => ?_
  rw [← en12_eq]
  replace h := h wf lt
  generalize startL _ = tm
  try unfold F12 at h
  refine code2_sound ok_mono _ _ _ ?_
  refine kmp ?_ h
  generalize Ok Try.prog = C
  try unfold en12
  as_aux_lemma => kernel_rfl

/-! (*parapet/waitq.Queue).Sleep (82 slots) -/
noncomputable def en14 (K : LV → LHeap → Prop) : LEx → LSt → Prop := fun e st => match e with
  | .exit _ => False
  | _ => K (st.tm 6) st.g
theorem en14_eq (K : LV → LHeap → Prop) : en14 K = endL Try.prog Try.f14 K := by
  funext e st
  cases e <;> kernel_rfl
noncomputable def nd14 (p : List Nat) : Code := subC p (bodyC Try.prog 14)
noncomputable def J14_7 (g : LHeap)  (K : LV → LHeap → Prop) : Prop :=
  K (.int .i64 (0)) g
abbrev kj14_7  (K : LV → LHeap → Prop) : LSt → Prop := fun st => J14_7  st.g  K
theorem J14_7_ok  (K : LV → LHeap → Prop) (tm : Nat → LV) (g : LHeap) (h : J14_7  g  K) : codeL Try.prog (Ok Try.prog) (nd14 [1, 1, 1, 1, 1, 1, 1, 1]) ⟨tm, g⟩ (en14 K) := by
  try unfold J14_7 at h
  refine code2_sound ok_mono _ _ _ ?_
  refine kmp ?_ h
  generalize Ok Try.prog = C
  try unfold en14
  as_aux_lemma => kernel_rfl

noncomputable def L14_9 (x0 x1 x64 x65 : LV) (x66 : LV) (g : LHeap) (N9 : LV → LHeap → Prop) (K : LV → LHeap → Prop) : Prop :=
  vK (binL Try.prog .lss 3 false x66 x65) fun t67 =>
  ifB t67 (
  vK (ixAddrL none 3 x64 x66) fun t68 =>
  vK (loadV (some 3) t68 g) fun t69 =>
  oK (newL (.agg [(.int .i64 (0)), (.int .i64 (0)), (.int .i64 (0))]) g) fun t12 g =>
  gK (storeV 3 t12 t69 g) fun g =>
  vK (nilCheckL x0) fun t71 =>
  vK (fieldAddrL 0 t71) fun t72 =>
  vK (loadV none t72 g) fun t73 =>
  vK (loadV (some 3) t12 g) fun t74 =>
  ((oK (buildSliceL Try.prog 24 1 [(0, x1)] g) fun t77 g =>
  ((loadV (some 3) t12 g) = some t74 ∧ ((loadV none t72 g) = some t73 ∧ 
  ((oK (mapEntryL Try.prog 79 t73 t74 g) fun t78 g =>
  
  vK (extractL t78 0) fun t75 =>
  vK (extractL t78 1) fun t80 =>
  ((oK (builtinL Try.prog .append [24, 24] [t75, t77] g) fun t79 g =>
  
  ((gK (entryStoreL t73 t80 t79 g) fun g =>
  
  vK (binL Try.prog .add 3 true x66 (.int .i64 (1))) fun t81 =>
  N9 t81 g) ∧ True)) ∧ True)) ∧ True)))) ∧ True)) (
  J14_7  g  K)
theorem L14_9_ok (R9 : LV × LV × LV × LV → LV → LHeap → Prop) (K : LV → LHeap → Prop) (tm : Nat → LV) (g : LHeap) (h : L14_9 (tm 0) (tm 1) (tm 64) (tm 65) (tm 66) g (fun s g => R9 ((tm 0), (tm 1), (tm 64), (tm 65)) s g) K) : codeL Try.prog (Ok Try.prog) (nd14 [1, 1, 1, 1, 1, 1, 1, 0, 1, 0, 0]) ⟨tm, g⟩ (roundK (fun tm : Nat → LV => (tm 0, tm 1, tm 64, tm 65)) (fun tm : Nat → LV => tm 66) R9 (exitL 2 (thenL (kj14_7  K) (en14 K)))) := by
  try unfold L14_9 at h
  unfold kj14_7
  generalize @J14_7 = Q14_7 at h ⊢
  refine code2_sound ok_mono _ _ _ ?_
  refine kmp ?_ h
  generalize Ok Try.prog = C
  try unfold en14
  as_aux_lemma => kernel_rfl

noncomputable def J14_8 (x0 x1 x64 x65 x66 : LV) (g : LHeap)  (K : LV → LHeap → Prop) : Prop :=
  loopP (fun s g N => L14_9 x0 x1 x64 x65 s g N  K) x66 g
abbrev kj14_8  (K : LV → LHeap → Prop) : LSt → Prop := fun st => J14_8 (st.tm 0) (st.tm 1) (st.tm 64) (st.tm 65) (st.tm 66) st.g  K
theorem J14_8_ok  (K : LV → LHeap → Prop) (tm : Nat → LV) (g : LHeap) (h : J14_8 (tm 0) (tm 1) (tm 64) (tm 65) (tm 66) g  K) : codeL Try.prog (Ok Try.prog) (nd14 [1, 1, 1, 1, 1, 1, 1, 0, 1]) ⟨tm, g⟩ (thenL (kj14_7  K) (en14 K)) := by
  refine block_i (b := nd14 [1, 1, 1, 1, 1, 1, 1, 0, 1, 0]) (i := 2) (by kernel_rfl) ?_
  exact loop_glue (b := nd14 [1, 1, 1, 1, 1, 1, 1, 0, 1, 0, 0]) (by kernel_rfl) (fun tm : Nat → LV => (tm 0, tm 1, tm 64, tm 65)) (fun tm : Nat → LV => tm 66) (fun a s g N => L14_9 a.1 a.2.1 a.2.2.1 a.2.2.2 s g N  K) (fun tm g R h => L14_9_ok R  K tm g h) tm g h

noncomputable def J14_6 (x0 x1 x2 : LV) (g : LHeap)  (K : LV → LHeap → Prop) : Prop :=
  oK (builtinL Try.prog .len [30] [x2] g) fun t65 g =>
  J14_8 x0 x1 x2 t65 (.int .i64 (0)) g  K
abbrev kj14_6  (K : LV → LHeap → Prop) : LSt → Prop := fun st => J14_6 (st.tm 0) (st.tm 1) (st.tm 2) st.g  K
theorem J14_6_ok  (K : LV → LHeap → Prop) (tm : Nat → LV) (g : LHeap) (h : J14_6 (tm 0) (tm 1) (tm 2) g  K) : codeL Try.prog (Ok Try.prog) (nd14 [1, 1, 1, 1, 1, 1, 1]) ⟨tm, g⟩ (en14 K) := by
  refine seq_i (a := nd14 [1, 1, 1, 1, 1, 1, 1, 0]) (b := nd14 [1, 1, 1, 1, 1, 1, 1, 1]) (k' := kj14_7  K) (by kernel_rfl) (fun st h => J14_7_ok  K st.tm st.g h) ?_
  refine seq_i (a := nd14 [1, 1, 1, 1, 1, 1, 1, 0, 0]) (b := nd14 [1, 1, 1, 1, 1, 1, 1, 0, 1]) (k' := kj14_8  K) (by kernel_rfl) (fun st h => J14_8_ok  K st.tm st.g h) ?_
  try unfold J14_6 at h
  unfold kj14_8
  generalize @J14_8 = Q14_8 at h ⊢
  unfold kj14_7
  generalize @J14_7 = Q14_7 at h ⊢
  refine code2_sound ok_mono _ _ _ ?_
  refine kmp ?_ h
  generalize Ok Try.prog = C
  try unfold en14
  as_aux_lemma => kernel_rfl

noncomputable def J14_5 (x0 x1 x2 : LV) (g : LHeap)  (K : LV → LHeap → Prop) : Prop :=
  vK (nilCheckL x0) fun t58 =>
  vK (fieldAddrL 1 t58) fun t59 =>
  vK (loadV none t59 g) fun t60 =>
  ((Ok Try.prog 42 [x2] g fun t63 g =>
  ((loadV none t59 g) = some t60 ∧ 
  ((gK (mapSetL Try.prog 80 t60 x1 t63 g) fun g =>
  
  J14_6 x0 x1 x2 g  K) ∧ True))) ∧ True)
abbrev kj14_5  (K : LV → LHeap → Prop) : LSt → Prop := fun st => J14_5 (st.tm 0) (st.tm 1) (st.tm 2) st.g  K
theorem J14_5_ok  (K : LV → LHeap → Prop) (tm : Nat → LV) (g : LHeap) (h : J14_5 (tm 0) (tm 1) (tm 2) g  K) : codeL Try.prog (Ok Try.prog) (nd14 [1, 1, 1, 1, 1, 1]) ⟨tm, g⟩ (en14 K) := by
  refine seq_i (a := nd14 [1, 1, 1, 1, 1, 1, 0]) (b := nd14 [1, 1, 1, 1, 1, 1, 1]) (k' := kj14_6  K) (by kernel_rfl) (fun st h => J14_6_ok  K st.tm st.g h) ?_
  try unfold J14_5 at h
  unfold kj14_6
  generalize @J14_6 = Q14_6 at h ⊢
  refine code2_sound ok_mono _ _ _ ?_
  refine kmp ?_ h
  generalize Ok Try.prog = C
  try unfold en14
  as_aux_lemma => kernel_rfl

noncomputable def J14_4 (x0 x1 x2 : LV) (g : LHeap)  (K : LV → LHeap → Prop) : Prop :=
  vK (nilCheckL x0) fun t52 =>
  vK (fieldAddrL 1 t52) fun t53 =>
  vK (loadV none t53 g) fun t54 =>
  oK (builtinL Try.prog .len [80] [t54] g) fun t55 g =>
  vK (binL Try.prog .geq 3 true t55 (.int .i64 (64))) fun t56 =>
  ifB t56 (
  K (.int .i64 (2)) g) (
  J14_5 x0 x1 x2 g  K)
abbrev kj14_4  (K : LV → LHeap → Prop) : LSt → Prop := fun st => J14_4 (st.tm 0) (st.tm 1) (st.tm 2) st.g  K
theorem J14_4_ok  (K : LV → LHeap → Prop) (tm : Nat → LV) (g : LHeap) (h : J14_4 (tm 0) (tm 1) (tm 2) g  K) : codeL Try.prog (Ok Try.prog) (nd14 [1, 1, 1, 1, 1]) ⟨tm, g⟩ (en14 K) := by
  refine seq_i (a := nd14 [1, 1, 1, 1, 1, 0]) (b := nd14 [1, 1, 1, 1, 1, 1]) (k' := kj14_5  K) (by kernel_rfl) (fun st h => J14_5_ok  K st.tm st.g h) ?_
  try unfold J14_4 at h
  unfold kj14_5
  generalize @J14_5 = Q14_5 at h ⊢
  refine code2_sound ok_mono _ _ _ ?_
  refine kmp ?_ h
  generalize Ok Try.prog = C
  try unfold en14
  as_aux_lemma => kernel_rfl

noncomputable def J14_3 (x0 x1 x2 : LV) (g : LHeap)  (K : LV → LHeap → Prop) : Prop :=
  vK (nilCheckL x0) fun t43 =>
  vK (fieldAddrL 1 t43) fun t44 =>
  vK (loadV none t44 g) fun t45 =>
  vK (lookupL Try.prog 80 t45 x1 true g) fun t47 =>
  vK (extractL t47 0) fun t48 =>
  vK (extractL t47 1) fun t49 =>
  ifB t49 (
  K (.int .i64 (101)) g) (
  J14_4 x0 x1 x2 g  K)
abbrev kj14_3  (K : LV → LHeap → Prop) : LSt → Prop := fun st => J14_3 (st.tm 0) (st.tm 1) (st.tm 2) st.g  K
theorem J14_3_ok  (K : LV → LHeap → Prop) (tm : Nat → LV) (g : LHeap) (h : J14_3 (tm 0) (tm 1) (tm 2) g  K) : codeL Try.prog (Ok Try.prog) (nd14 [1, 1, 1, 1]) ⟨tm, g⟩ (en14 K) := by
  refine seq_i (a := nd14 [1, 1, 1, 1, 0]) (b := nd14 [1, 1, 1, 1, 1]) (k' := kj14_4  K) (by kernel_rfl) (fun st h => J14_4_ok  K st.tm st.g h) ?_
  try unfold J14_3 at h
  unfold kj14_4
  generalize @J14_4 = Q14_4 at h ⊢
  refine code2_sound ok_mono _ _ _ ?_
  refine kmp ?_ h
  generalize Ok Try.prog = C
  try unfold en14
  as_aux_lemma => kernel_rfl

noncomputable def L14_11 (x0 x1 x2 x28 x29 : LV) (x30 : LV) (g : LHeap) (N11 : LV → LHeap → Prop) (K : LV → LHeap → Prop) : Prop :=
  vK (binL Try.prog .lss 3 false x30 x29) fun t31 =>
  ifB t31 (
  vK (ixAddrL none 3 x28 x30) fun t33 =>
  vK (loadV (some 3) t33 g) fun t34 =>
  oK (newL (.agg [(.int .i64 (0)), (.int .i64 (0)), (.int .i64 (0))]) g) fun t8 g =>
  gK (storeV 3 t8 t34 g) fun g =>
  vK (cutT Try.prog 30 x2 none (some x30) none (limL x2 g)) fun t37 =>
  vK (loadV (some 3) t8 g) fun t38 =>
  ((Ok Try.prog 41 [t37, t38] g fun t39 g =>
  
  ifB t39 (
  K (.int .i64 (1)) g) (
  vK (binL Try.prog .add 3 true x30 (.int .i64 (1))) fun t40 =>
  N11 t40 g)) ∧ True)) (
  J14_3 x0 x1 x2 g  K)
theorem L14_11_ok (R11 : LV × LV × LV × LV × LV → LV → LHeap → Prop) (K : LV → LHeap → Prop) (tm : Nat → LV) (g : LHeap) (h : L14_11 (tm 0) (tm 1) (tm 2) (tm 28) (tm 29) (tm 30) g (fun s g => R11 ((tm 0), (tm 1), (tm 2), (tm 28), (tm 29)) s g) K) : codeL Try.prog (Ok Try.prog) (nd14 [1, 1, 1, 0, 1, 0, 0]) ⟨tm, g⟩ (roundK (fun tm : Nat → LV => (tm 0, tm 1, tm 2, tm 28, tm 29)) (fun tm : Nat → LV => tm 30) R11 (exitL 0 (thenL (kj14_3  K) (en14 K)))) := by
  try unfold L14_11 at h
  unfold kj14_3
  generalize @J14_3 = Q14_3 at h ⊢
  refine code2_sound ok_mono _ _ _ ?_
  refine kmp ?_ h
  generalize Ok Try.prog = C
  try unfold en14
  as_aux_lemma => kernel_rfl

noncomputable def J14_10 (x0 x1 x2 x28 x29 x30 : LV) (g : LHeap)  (K : LV → LHeap → Prop) : Prop :=
  loopP (fun s g N => L14_11 x0 x1 x2 x28 x29 s g N  K) x30 g
abbrev kj14_10  (K : LV → LHeap → Prop) : LSt → Prop := fun st => J14_10 (st.tm 0) (st.tm 1) (st.tm 2) (st.tm 28) (st.tm 29) (st.tm 30) st.g  K
theorem J14_10_ok  (K : LV → LHeap → Prop) (tm : Nat → LV) (g : LHeap) (h : J14_10 (tm 0) (tm 1) (tm 2) (tm 28) (tm 29) (tm 30) g  K) : codeL Try.prog (Ok Try.prog) (nd14 [1, 1, 1, 0, 1]) ⟨tm, g⟩ (thenL (kj14_3  K) (en14 K)) := by
  refine block_i (b := nd14 [1, 1, 1, 0, 1, 0]) (i := 0) (by kernel_rfl) ?_
  exact loop_glue (b := nd14 [1, 1, 1, 0, 1, 0, 0]) (by kernel_rfl) (fun tm : Nat → LV => (tm 0, tm 1, tm 2, tm 28, tm 29)) (fun tm : Nat → LV => tm 30) (fun a s g N => L14_11 a.1 a.2.1 a.2.2.1 a.2.2.2.1 a.2.2.2.2 s g N  K) (fun tm g R h => L14_11_ok R  K tm g h) tm g h

noncomputable def J14_2 (x0 x1 x2 : LV) (g : LHeap)  (K : LV → LHeap → Prop) : Prop :=
  oK (builtinL Try.prog .len [30] [x2] g) fun t29 g =>
  J14_10 x0 x1 x2 x2 t29 (.int .i64 (0)) g  K
abbrev kj14_2  (K : LV → LHeap → Prop) : LSt → Prop := fun st => J14_2 (st.tm 0) (st.tm 1) (st.tm 2) st.g  K
theorem J14_2_ok  (K : LV → LHeap → Prop) (tm : Nat → LV) (g : LHeap) (h : J14_2 (tm 0) (tm 1) (tm 2) g  K) : codeL Try.prog (Ok Try.prog) (nd14 [1, 1, 1]) ⟨tm, g⟩ (en14 K) := by
  refine seq_i (a := nd14 [1, 1, 1, 0]) (b := nd14 [1, 1, 1, 1]) (k' := kj14_3  K) (by kernel_rfl) (fun st h => J14_3_ok  K st.tm st.g h) ?_
  refine seq_i (a := nd14 [1, 1, 1, 0, 0]) (b := nd14 [1, 1, 1, 0, 1]) (k' := kj14_10  K) (by kernel_rfl) (fun st h => J14_10_ok  K st.tm st.g h) ?_
  try unfold J14_2 at h
  unfold kj14_10
  generalize @J14_10 = Q14_10 at h ⊢
  unfold kj14_3
  generalize @J14_3 = Q14_3 at h ⊢
  refine code2_sound ok_mono _ _ _ ?_
  refine kmp ?_ h
  generalize Ok Try.prog = C
  try unfold en14
  as_aux_lemma => kernel_rfl

noncomputable def J14_1 (x0 x1 x2 : LV) (g : LHeap)  (K : LV → LHeap → Prop) : Prop :=
  vK (binL Try.prog .lss 3 true x1 (.int .i64 (1))) fun t17 =>
  gd t17 false g (fun K => K x2 g) fun t19 g =>
  gd t17 false g (fun K => oK (builtinL Try.prog .len [30] [t19] g) K) fun t20 g =>
  gd t17 false g (fun K => vK (binL Try.prog .eql 3 true t20 (.int .i64 (0))) fun v => K v g) fun t21 g =>
  vK (pickL t17 (.bool true) t21) fun t22 =>
  gd t22 false g (fun K => K x2 g) fun t24 g =>
  gd t22 false g (fun K => oK (builtinL Try.prog .len [30] [t24] g) K) fun t25 g =>
  gd t22 false g (fun K => vK (binL Try.prog .gtr 3 true t25 (.int .i64 (16))) fun v => K v g) fun t26 g =>
  vK (pickL t22 (.bool true) t26) fun t27 =>
  ifB t27 (
  K (.int .i64 (1)) g) (
  J14_2 x0 x1 x2 g  K)
abbrev kj14_1  (K : LV → LHeap → Prop) : LSt → Prop := fun st => J14_1 (st.tm 0) (st.tm 1) (st.tm 2) st.g  K
theorem J14_1_ok  (K : LV → LHeap → Prop) (tm : Nat → LV) (g : LHeap) (h : J14_1 (tm 0) (tm 1) (tm 2) g  K) : codeL Try.prog (Ok Try.prog) (nd14 [1, 1]) ⟨tm, g⟩ (en14 K) := by
  refine seq_i (a := nd14 [1, 1, 0]) (b := nd14 [1, 1, 1]) (k' := kj14_2  K) (by kernel_rfl) (fun st h => J14_2_ok  K st.tm st.g h) ?_
  try unfold J14_1 at h
  unfold kj14_2
  generalize @J14_2 = Q14_2 at h ⊢
  refine code2_sound ok_mono _ _ _ ?_
  refine kmp ?_ h
  generalize Ok Try.prog = C
  try unfold en14
  as_aux_lemma => kernel_rfl

noncomputable def J14_0 (x0 x1 x2 : LV) (g : LHeap)  (K : LV → LHeap → Prop) : Prop :=
  Ok Try.prog 40 [x0] g fun t14 g =>
  vK (unL .not t14) fun t15 =>
  ifB t15 (
  K (.int .i64 (6)) g) (
  J14_1 x0 x1 x2 g  K)
abbrev kj14_0  (K : LV → LHeap → Prop) : LSt → Prop := fun st => J14_0 (st.tm 0) (st.tm 1) (st.tm 2) st.g  K
theorem J14_0_ok  (K : LV → LHeap → Prop) (tm : Nat → LV) (g : LHeap) (h : J14_0 (tm 0) (tm 1) (tm 2) g  K) : codeL Try.prog (Ok Try.prog) (nd14 [1]) ⟨tm, g⟩ (en14 K) := by
  refine seq_i (a := nd14 [1, 0]) (b := nd14 [1, 1]) (k' := kj14_1  K) (by kernel_rfl) (fun st h => J14_1_ok  K st.tm st.g h) ?_
  try unfold J14_0 at h
  unfold kj14_1
  generalize @J14_1 = Q14_1 at h ⊢
  refine code2_sound ok_mono _ _ _ ?_
  refine kmp ?_ h
  generalize Ok Try.prog = C
  try unfold en14
  as_aux_lemma => kernel_rfl

noncomputable def F14 (x0 x1 x2 : LV) (g : LHeap) (K : LV → LHeap → Prop) : Prop :=
  J14_0 x0 x1 x2 g  K
theorem ok14 {x0 x1 x2 : LV} {g : LHeap} {K : LV → LHeap → Prop} (h : g.Wf → (∀ v ∈ ([x0, x1, x2] : List LV), ∀ b ∈ v.objs, b < g.next) → F14 x0 x1 x2 g K) : Ok Try.prog 14 [x0, x1, x2] g K := by
  refine ok_fw Try.mixed Try.func14 (by kernel_rfl) (by kernel_rfl) (c := nd14 []) (by kernel_rfl) fun wf lt => ?_
  rw [← en14_eq]
  replace h := h wf lt
  generalize hs : startL _ = tm
  replace h : F14 (tm 0) (tm 1) (tm 2) g K := by rw [← hs]; exact h
  refine seq_i (a := nd14 [0]) (b := nd14 [1]) (k' := kj14_0  K) (by kernel_rfl) (fun st h => J14_0_ok  K st.tm st.g h) ?_
  try unfold F14 at h
  unfold kj14_0
  generalize @J14_0 = Q14_0 at h ⊢
  refine code2_sound ok_mono _ _ _ ?_
  refine kmp ?_ h
  generalize Ok Try.prog = C
  try unfold en14
  as_aux_lemma => kernel_rfl

/-! (*parapet/waitq.Queue).Wake (31 slots) -/
noncomputable def en15 (K : LV → LHeap → Prop) : LEx → LSt → Prop := fun e st => match e with
  | .exit _ => False
  | _ => K (st.tm 6) st.g
theorem en15_eq (K : LV → LHeap → Prop) : en15 K = endL Try.prog Try.f15 K := by
  funext e st
  cases e <;> kernel_rfl
noncomputable def nd15 (p : List Nat) : Code := subC p (bodyC Try.prog 15)
noncomputable def J15_2 (x7 : LV) (g : LHeap)  (K : LV → LHeap → Prop) : Prop :=
  K x7 g
abbrev kj15_2  (K : LV → LHeap → Prop) : LSt → Prop := fun st => J15_2 (st.tm 7) st.g  K
theorem J15_2_ok  (K : LV → LHeap → Prop) (tm : Nat → LV) (g : LHeap) (h : J15_2 (tm 7) g  K) : codeL Try.prog (Ok Try.prog) (nd15 [1, 1, 1]) ⟨tm, g⟩ (en15 K) := by
  try unfold J15_2 at h
  refine code2_sound ok_mono _ _ _ ?_
  refine kmp ?_ h
  generalize Ok Try.prog = C
  try unfold en15
  as_aux_lemma => kernel_rfl

noncomputable def L15_4 (x0 x2 x12 x13 : LV) (x7 x14 : LV) (g : LHeap) (N4 : LV × LV → LHeap → Prop) (K : LV → LHeap → Prop) : Prop :=
  vK (binL Try.prog .lss 3 false x14 x13) fun t15 =>
  ifB t15 (
  vK (ixAddrL none 1 x12 x14) fun t16 =>
  vK (loadV none t16 g) fun t17 =>
  oK (builtinL Try.prog .len [24] [x7] g) fun t19 g =>
  vK (binL Try.prog .geq 3 false t19 x2) fun t21 =>
  ifB t21 (
  J15_2 x7 g  K) (
  Ok Try.prog 26 [x0, t17] g fun t24 g =>
  oK (buildSliceL Try.prog 24 1 [(0, t17)] g) fun t27 g =>
  oK (builtinL Try.prog .append [24, 24] [x7, t27] g) fun t28 g =>
  vK (binL Try.prog .add 3 true x14 (.int .i64 (1))) fun t29 =>
  N4 (t28, t29) g)) (
  J15_2 x7 g  K)
theorem L15_4_ok (R4 : LV × LV × LV × LV → LV × LV → LHeap → Prop) (K : LV → LHeap → Prop) (tm : Nat → LV) (g : LHeap) (h : L15_4 (tm 0) (tm 2) (tm 12) (tm 13) (tm 7) (tm 14) g (fun s g => R4 ((tm 0), (tm 2), (tm 12), (tm 13)) s g) K) : codeL Try.prog (Ok Try.prog) (nd15 [1, 1, 0, 1, 0, 0]) ⟨tm, g⟩ (roundK (fun tm : Nat → LV => (tm 0, tm 2, tm 12, tm 13)) (fun tm : Nat → LV => (tm 7, tm 14)) R4 (exitL 0 (thenL (kj15_2  K) (en15 K)))) := by
  try unfold L15_4 at h
  unfold kj15_2
  generalize @J15_2 = Q15_2 at h ⊢
  refine code2_sound ok_mono _ _ _ ?_
  refine kmp ?_ h
  generalize Ok Try.prog = C
  try unfold en15
  as_aux_lemma => kernel_rfl

noncomputable def J15_3 (x0 x2 x7 x12 x13 x14 : LV) (g : LHeap)  (K : LV → LHeap → Prop) : Prop :=
  loopP (fun s g N => L15_4 x0 x2 x12 x13 s.1 s.2 g N  K) (x7, x14) g
abbrev kj15_3  (K : LV → LHeap → Prop) : LSt → Prop := fun st => J15_3 (st.tm 0) (st.tm 2) (st.tm 7) (st.tm 12) (st.tm 13) (st.tm 14) st.g  K
theorem J15_3_ok  (K : LV → LHeap → Prop) (tm : Nat → LV) (g : LHeap) (h : J15_3 (tm 0) (tm 2) (tm 7) (tm 12) (tm 13) (tm 14) g  K) : codeL Try.prog (Ok Try.prog) (nd15 [1, 1, 0, 1]) ⟨tm, g⟩ (thenL (kj15_2  K) (en15 K)) := by
  refine block_i (b := nd15 [1, 1, 0, 1, 0]) (i := 0) (by kernel_rfl) ?_
  exact loop_glue (b := nd15 [1, 1, 0, 1, 0, 0]) (by kernel_rfl) (fun tm : Nat → LV => (tm 0, tm 2, tm 12, tm 13)) (fun tm : Nat → LV => (tm 7, tm 14)) (fun a s g N => L15_4 a.1 a.2.1 a.2.2.1 a.2.2.2 s.1 s.2 g N  K) (fun tm g R h => L15_4_ok R  K tm g h) tm g h

noncomputable def J15_1 (x0 x2 x4 x7 : LV) (g : LHeap)  (K : LV → LHeap → Prop) : Prop :=
  vK (loadV (some 3) x4 g) fun t11 =>
  Ok Try.prog 17 [x0, t11] g fun t12 g =>
  oK (builtinL Try.prog .len [24] [t12] g) fun t13 g =>
  J15_3 x0 x2 x7 t12 t13 (.int .i64 (0)) g  K
abbrev kj15_1  (K : LV → LHeap → Prop) : LSt → Prop := fun st => J15_1 (st.tm 0) (st.tm 2) (st.tm 4) (st.tm 7) st.g  K
theorem J15_1_ok  (K : LV → LHeap → Prop) (tm : Nat → LV) (g : LHeap) (h : J15_1 (tm 0) (tm 2) (tm 4) (tm 7) g  K) : codeL Try.prog (Ok Try.prog) (nd15 [1, 1]) ⟨tm, g⟩ (en15 K) := by
  refine seq_i (a := nd15 [1, 1, 0]) (b := nd15 [1, 1, 1]) (k' := kj15_2  K) (by kernel_rfl) (fun st h => J15_2_ok  K st.tm st.g h) ?_
  refine seq_i (a := nd15 [1, 1, 0, 0]) (b := nd15 [1, 1, 0, 1]) (k' := kj15_3  K) (by kernel_rfl) (fun st h => J15_3_ok  K st.tm st.g h) ?_
  try unfold J15_1 at h
  unfold kj15_3
  generalize @J15_3 = Q15_3 at h ⊢
  unfold kj15_2
  generalize @J15_2 = Q15_2 at h ⊢
  refine code2_sound ok_mono _ _ _ ?_
  refine kmp ?_ h
  generalize Ok Try.prog = C
  try unfold en15
  as_aux_lemma => kernel_rfl

noncomputable def J15_0 (x0 x2 x4 : LV) (g : LHeap)  (K : LV → LHeap → Prop) : Prop :=
  J15_1 x0 x2 x4 .nils g  K
abbrev kj15_0  (K : LV → LHeap → Prop) : LSt → Prop := fun st => J15_0 (st.tm 0) (st.tm 2) (st.tm 4) st.g  K
theorem J15_0_ok  (K : LV → LHeap → Prop) (tm : Nat → LV) (g : LHeap) (h : J15_0 (tm 0) (tm 2) (tm 4) g  K) : codeL Try.prog (Ok Try.prog) (nd15 [1]) ⟨tm, g⟩ (en15 K) := by
  refine seq_i (a := nd15 [1, 0]) (b := nd15 [1, 1]) (k' := kj15_1  K) (by kernel_rfl) (fun st h => J15_1_ok  K st.tm st.g h) ?_
  try unfold J15_0 at h
  unfold kj15_1
  generalize @J15_1 = Q15_1 at h ⊢
  refine code2_sound ok_mono _ _ _ ?_
  refine kmp ?_ h
  generalize Ok Try.prog = C
  try unfold en15
  as_aux_lemma => kernel_rfl

noncomputable def F15 (x0 x1 x2 : LV) (g : LHeap) (K : LV → LHeap → Prop) : Prop :=
  oK (newL x1 g) fun t4 g =>
  J15_0 x0 x2 t4 g  K
theorem ok15 {x0 x1 x2 : LV} {g : LHeap} {K : LV → LHeap → Prop} (h : g.Wf → (∀ v ∈ ([x0, x1, x2] : List LV), ∀ b ∈ v.objs, b < g.next) → F15 x0 x1 x2 g K) : Ok Try.prog 15 [x0, x1, x2] g K := by
  refine ok_fw Try.mixed Try.func15 (by kernel_rfl) (by kernel_rfl) (c := nd15 []) (by kernel_rfl) fun wf lt => ?_
  rw [← en15_eq]
  replace h := h wf lt
  generalize hs : startL _ = tm
  replace h : F15 (tm 0) (tm 1) (tm 2) g K := by rw [← hs]; exact h
  refine seq_i (a := nd15 [0]) (b := nd15 [1]) (k' := kj15_0  K) (by kernel_rfl) (fun st h => J15_0_ok  K st.tm st.g h) ?_
  try unfold F15 at h
  unfold kj15_0
  generalize @J15_0 = Q15_0 at h ⊢
  refine code2_sound ok_mono _ _ _ ?_
  refine kmp ?_ h
  generalize Ok Try.prog = C
  try unfold en15
  as_aux_lemma => kernel_rfl

/-! parapet/parapetlaw12.sameInts (26 slots) -/
noncomputable def en16 (K : LV → LHeap → Prop) : LEx → LSt → Prop := fun e st => match e with
  | .exit _ => False
  | _ => K (st.tm 4) st.g
theorem en16_eq (K : LV → LHeap → Prop) : en16 K = endL Try.prog Try.f16 K := by
  funext e st
  cases e <;> kernel_rfl
noncomputable def nd16 (p : List Nat) : Code := subC p (bodyC Try.prog 16)
noncomputable def J16_2 (g : LHeap)  (K : LV → LHeap → Prop) : Prop :=
  K (.bool true) g
abbrev kj16_2  (K : LV → LHeap → Prop) : LSt → Prop := fun st => J16_2  st.g  K
theorem J16_2_ok  (K : LV → LHeap → Prop) (tm : Nat → LV) (g : LHeap) (h : J16_2  g  K) : codeL Try.prog (Ok Try.prog) (nd16 [1, 1, 1]) ⟨tm, g⟩ (en16 K) := by
  try unfold J16_2 at h
  refine code2_sound ok_mono _ _ _ ?_
  refine kmp ?_ h
  generalize Ok Try.prog = C
  try unfold en16
  as_aux_lemma => kernel_rfl

noncomputable def L16_4 (x0 x1 x12 : LV) (x13 : LV) (g : LHeap) (N4 : LV → LHeap → Prop) (K : LV → LHeap → Prop) : Prop :=
  vK (binL Try.prog .lss 3 false x13 x12) fun t14 =>
  ifB t14 (
  vK (ixAddrL none 1 x0 x13) fun t18 =>
  vK (loadV none t18 g) fun t19 =>
  vK (ixAddrL none 1 x1 x13) fun t22 =>
  vK (loadV none t22 g) fun t23 =>
  vK (binL Try.prog .neq 3 false t19 t23) fun t24 =>
  ifB t24 (
  K (.bool false) g) (
  vK (binL Try.prog .add 3 true x13 (.int .i64 (1))) fun t25 =>
  N4 t25 g)) (
  J16_2  g  K)
theorem L16_4_ok (R4 : LV × LV × LV → LV → LHeap → Prop) (K : LV → LHeap → Prop) (tm : Nat → LV) (g : LHeap) (h : L16_4 (tm 0) (tm 1) (tm 12) (tm 13) g (fun s g => R4 ((tm 0), (tm 1), (tm 12)) s g) K) : codeL Try.prog (Ok Try.prog) (nd16 [1, 1, 0, 1, 0, 0]) ⟨tm, g⟩ (roundK (fun tm : Nat → LV => (tm 0, tm 1, tm 12)) (fun tm : Nat → LV => tm 13) R4 (exitL 0 (thenL (kj16_2  K) (en16 K)))) := by
  try unfold L16_4 at h
  unfold kj16_2
  generalize @J16_2 = Q16_2 at h ⊢
  refine code2_sound ok_mono _ _ _ ?_
  refine kmp ?_ h
  generalize Ok Try.prog = C
  try unfold en16
  as_aux_lemma => kernel_rfl

noncomputable def J16_3 (x0 x1 x12 x13 : LV) (g : LHeap)  (K : LV → LHeap → Prop) : Prop :=
  loopP (fun s g N => L16_4 x0 x1 x12 s g N  K) x13 g
abbrev kj16_3  (K : LV → LHeap → Prop) : LSt → Prop := fun st => J16_3 (st.tm 0) (st.tm 1) (st.tm 12) (st.tm 13) st.g  K
theorem J16_3_ok  (K : LV → LHeap → Prop) (tm : Nat → LV) (g : LHeap) (h : J16_3 (tm 0) (tm 1) (tm 12) (tm 13) g  K) : codeL Try.prog (Ok Try.prog) (nd16 [1, 1, 0, 1]) ⟨tm, g⟩ (thenL (kj16_2  K) (en16 K)) := by
  refine block_i (b := nd16 [1, 1, 0, 1, 0]) (i := 0) (by kernel_rfl) ?_
  exact loop_glue (b := nd16 [1, 1, 0, 1, 0, 0]) (by kernel_rfl) (fun tm : Nat → LV => (tm 0, tm 1, tm 12)) (fun tm : Nat → LV => tm 13) (fun a s g N => L16_4 a.1 a.2.1 a.2.2 s g N  K) (fun tm g R h => L16_4_ok R  K tm g h) tm g h

noncomputable def J16_1 (x0 x1 : LV) (g : LHeap)  (K : LV → LHeap → Prop) : Prop :=
  oK (builtinL Try.prog .len [24] [x0] g) fun t12 g =>
  J16_3 x0 x1 t12 (.int .i64 (0)) g  K
abbrev kj16_1  (K : LV → LHeap → Prop) : LSt → Prop := fun st => J16_1 (st.tm 0) (st.tm 1) st.g  K
theorem J16_1_ok  (K : LV → LHeap → Prop) (tm : Nat → LV) (g : LHeap) (h : J16_1 (tm 0) (tm 1) g  K) : codeL Try.prog (Ok Try.prog) (nd16 [1, 1]) ⟨tm, g⟩ (en16 K) := by
  refine seq_i (a := nd16 [1, 1, 0]) (b := nd16 [1, 1, 1]) (k' := kj16_2  K) (by kernel_rfl) (fun st h => J16_2_ok  K st.tm st.g h) ?_
  refine seq_i (a := nd16 [1, 1, 0, 0]) (b := nd16 [1, 1, 0, 1]) (k' := kj16_3  K) (by kernel_rfl) (fun st h => J16_3_ok  K st.tm st.g h) ?_
  try unfold J16_1 at h
  unfold kj16_3
  generalize @J16_3 = Q16_3 at h ⊢
  unfold kj16_2
  generalize @J16_2 = Q16_2 at h ⊢
  refine code2_sound ok_mono _ _ _ ?_
  refine kmp ?_ h
  generalize Ok Try.prog = C
  try unfold en16
  as_aux_lemma => kernel_rfl

noncomputable def J16_0 (x0 x1 : LV) (g : LHeap)  (K : LV → LHeap → Prop) : Prop :=
  oK (builtinL Try.prog .len [24] [x0] g) fun t7 g =>
  oK (builtinL Try.prog .len [24] [x1] g) fun t9 g =>
  vK (binL Try.prog .neq 3 false t7 t9) fun t10 =>
  ifB t10 (
  K (.bool false) g) (
  J16_1 x0 x1 g  K)
abbrev kj16_0  (K : LV → LHeap → Prop) : LSt → Prop := fun st => J16_0 (st.tm 0) (st.tm 1) st.g  K
theorem J16_0_ok  (K : LV → LHeap → Prop) (tm : Nat → LV) (g : LHeap) (h : J16_0 (tm 0) (tm 1) g  K) : codeL Try.prog (Ok Try.prog) (nd16 [1]) ⟨tm, g⟩ (en16 K) := by
  refine seq_i (a := nd16 [1, 0]) (b := nd16 [1, 1]) (k' := kj16_1  K) (by kernel_rfl) (fun st h => J16_1_ok  K st.tm st.g h) ?_
  try unfold J16_0 at h
  unfold kj16_1
  generalize @J16_1 = Q16_1 at h ⊢
  refine code2_sound ok_mono _ _ _ ?_
  refine kmp ?_ h
  generalize Ok Try.prog = C
  try unfold en16
  as_aux_lemma => kernel_rfl

noncomputable def F16 (x0 x1 : LV) (g : LHeap) (K : LV → LHeap → Prop) : Prop :=
  J16_0 x0 x1 g  K
theorem ok16 {x0 x1 : LV} {g : LHeap} {K : LV → LHeap → Prop} (h : g.Wf → (∀ v ∈ ([x0, x1] : List LV), ∀ b ∈ v.objs, b < g.next) → F16 x0 x1 g K) : Ok Try.prog 16 [x0, x1] g K := by
  refine ok_fw Try.mixed Try.func16 (by kernel_rfl) (by kernel_rfl) (c := nd16 []) (by kernel_rfl) fun wf lt => ?_
  rw [← en16_eq]
  replace h := h wf lt
  generalize hs : startL _ = tm
  replace h : F16 (tm 0) (tm 1) g K := by rw [← hs]; exact h
  refine seq_i (a := nd16 [0]) (b := nd16 [1]) (k' := kj16_0  K) (by kernel_rfl) (fun st h => J16_0_ok  K st.tm st.g h) ?_
  try unfold F16 at h
  unfold kj16_0
  generalize @J16_0 = Q16_0 at h ⊢
  refine code2_sound ok_mono _ _ _ ?_
  refine kmp ?_ h
  generalize Ok Try.prog = C
  try unfold en16
  as_aux_lemma => kernel_rfl

/-! (*parapet/waitq.Queue).Sleepers (15 slots) -/
noncomputable def en17 (K : LV → LHeap → Prop) : LEx → LSt → Prop := fun e st => match e with
  | .exit _ => False
  | _ => K (st.tm 4) st.g
theorem en17_eq (K : LV → LHeap → Prop) : en17 K = endL Try.prog Try.f17 K := by
  funext e st
  cases e <;> kernel_rfl
noncomputable def nd17 (p : List Nat) : Code := subC p (bodyC Try.prog 17)
noncomputable def F17 (x0 x1 : LV) (g : LHeap) (K : LV → LHeap → Prop) : Prop :=
  oK (newL x1 g) fun t3 g =>
  Ok Try.prog 40 [x0] g fun t6 g =>
  vK (unL .not t6) fun t7 =>
  ifB t7 (
  K .nils g) (
  vK (nilCheckL x0) fun t9 =>
  vK (fieldAddrL 0 t9) fun t10 =>
  vK (loadV none t10 g) fun t11 =>
  vK (loadV (some 3) t3 g) fun t12 =>
  vK (lookupL Try.prog 79 t11 t12 false g) fun t13 =>
  ((Ok Try.prog 43 [t13] g fun t14 g =>
  
  K t14 g) ∧ True))
theorem ok17 {x0 x1 : LV} {g : LHeap} {K : LV → LHeap → Prop} (h : g.Wf → (∀ v ∈ ([x0, x1] : List LV), ∀ b ∈ v.objs, b < g.next) → F17 x0 x1 g K) : Ok Try.prog 17 [x0, x1] g K := by
  refine ok_fw Try.mixed Try.func17 (by kernel_rfl) (by kernel_rfl) (c := nd17 []) (by kernel_rfl) fun wf lt => ?_
  rw [← en17_eq]
  replace h := h wf lt
  generalize hs : startL _ = tm
  replace h : F17 (tm 0) (tm 1) g K := by rw [← hs]; exact h
  try unfold F17 at h
  refine code2_sound ok_mono _ _ _ ?_
  refine kmp ?_ h
  generalize Ok Try.prog = C
  try unfold en17
  as_aux_lemma => kernel_rfl

/-! (*parapet/waitq.Queue).Cancel (38 slots) -/
noncomputable def en26 (K : LV → LHeap → Prop) : LEx → LSt → Prop := fun e st => match e with
  | .exit _ => False
  | _ => K (st.tm 4) st.g
theorem en26_eq (K : LV → LHeap → Prop) : en26 K = endL Try.prog Try.f26 K := by
  funext e st
  cases e <;> kernel_rfl
noncomputable def nd26 (p : List Nat) : Code := subC p (bodyC Try.prog 26)
noncomputable def J26_3 (x0 x1 x6 : LV) (g : LHeap)  (K : LV → LHeap → Prop) : Prop :=
  vK (nilCheckL x0) fun t33 =>
  vK (fieldAddrL 1 t33) fun t34 =>
  vK (loadV none t34 g) fun t35 =>
  oK (builtinL Try.prog .delete [80, 3] [t35, x1] g) fun u g =>
  K x6 g
abbrev kj26_3  (K : LV → LHeap → Prop) : LSt → Prop := fun st => J26_3 (st.tm 0) (st.tm 1) (st.tm 6) st.g  K
theorem J26_3_ok  (K : LV → LHeap → Prop) (tm : Nat → LV) (g : LHeap) (h : J26_3 (tm 0) (tm 1) (tm 6) g  K) : codeL Try.prog (Ok Try.prog) (nd26 [1, 1, 1, 1]) ⟨tm, g⟩ (en26 K) := by
  try unfold J26_3 at h
  refine code2_sound ok_mono _ _ _ ?_
  refine kmp ?_ h
  generalize Ok Try.prog = C
  try unfold en26
  as_aux_lemma => kernel_rfl

noncomputable def L26_5 (x0 x1 x6 x21 x22 : LV) (x23 : LV) (g : LHeap) (N5 : LV → LHeap → Prop) (K : LV → LHeap → Prop) : Prop :=
  vK (binL Try.prog .lss 3 false x23 x22) fun t24 =>
  ifB t24 (
  vK (ixAddrL none 3 x21 x23) fun t25 =>
  vK (loadV (some 3) t25 g) fun t26 =>
  oK (newL (.agg [(.int .i64 (0)), (.int .i64 (0)), (.int .i64 (0))]) g) fun t8 g =>
  gK (storeV 3 t8 t26 g) fun g =>
  vK (loadV (some 3) t8 g) fun t29 =>
  Ok Try.prog 49 [x0, x1, t29] g fun t30 g =>
  vK (binL Try.prog .add 3 true x23 (.int .i64 (1))) fun t31 =>
  N5 t31 g) (
  J26_3 x0 x1 x6 g  K)
theorem L26_5_ok (R5 : LV × LV × LV × LV × LV → LV → LHeap → Prop) (K : LV → LHeap → Prop) (tm : Nat → LV) (g : LHeap) (h : L26_5 (tm 0) (tm 1) (tm 6) (tm 21) (tm 22) (tm 23) g (fun s g => R5 ((tm 0), (tm 1), (tm 6), (tm 21), (tm 22)) s g) K) : codeL Try.prog (Ok Try.prog) (nd26 [1, 1, 1, 0, 1, 0, 0]) ⟨tm, g⟩ (roundK (fun tm : Nat → LV => (tm 0, tm 1, tm 6, tm 21, tm 22)) (fun tm : Nat → LV => tm 23) R5 (exitL 0 (thenL (kj26_3  K) (en26 K)))) := by
  try unfold L26_5 at h
  unfold kj26_3
  generalize @J26_3 = Q26_3 at h ⊢
  refine code2_sound ok_mono _ _ _ ?_
  refine kmp ?_ h
  generalize Ok Try.prog = C
  try unfold en26
  as_aux_lemma => kernel_rfl

noncomputable def J26_4 (x0 x1 x6 x21 x22 x23 : LV) (g : LHeap)  (K : LV → LHeap → Prop) : Prop :=
  loopP (fun s g N => L26_5 x0 x1 x6 x21 x22 s g N  K) x23 g
abbrev kj26_4  (K : LV → LHeap → Prop) : LSt → Prop := fun st => J26_4 (st.tm 0) (st.tm 1) (st.tm 6) (st.tm 21) (st.tm 22) (st.tm 23) st.g  K
theorem J26_4_ok  (K : LV → LHeap → Prop) (tm : Nat → LV) (g : LHeap) (h : J26_4 (tm 0) (tm 1) (tm 6) (tm 21) (tm 22) (tm 23) g  K) : codeL Try.prog (Ok Try.prog) (nd26 [1, 1, 1, 0, 1]) ⟨tm, g⟩ (thenL (kj26_3  K) (en26 K)) := by
  refine block_i (b := nd26 [1, 1, 1, 0, 1, 0]) (i := 0) (by kernel_rfl) ?_
  exact loop_glue (b := nd26 [1, 1, 1, 0, 1, 0, 0]) (by kernel_rfl) (fun tm : Nat → LV => (tm 0, tm 1, tm 6, tm 21, tm 22)) (fun tm : Nat → LV => tm 23) (fun a s g N => L26_5 a.1 a.2.1 a.2.2.1 a.2.2.2.1 a.2.2.2.2 s g N  K) (fun tm g R h => L26_5_ok R  K tm g h) tm g h

noncomputable def J26_2 (x0 x1 x5 x6 : LV) (g : LHeap)  (K : LV → LHeap → Prop) : Prop :=
  oK (builtinL Try.prog .len [30] [x5] g) fun t22 g =>
  J26_4 x0 x1 x6 x5 t22 (.int .i64 (0)) g  K
abbrev kj26_2  (K : LV → LHeap → Prop) : LSt → Prop := fun st => J26_2 (st.tm 0) (st.tm 1) (st.tm 5) (st.tm 6) st.g  K
theorem J26_2_ok  (K : LV → LHeap → Prop) (tm : Nat → LV) (g : LHeap) (h : J26_2 (tm 0) (tm 1) (tm 5) (tm 6) g  K) : codeL Try.prog (Ok Try.prog) (nd26 [1, 1, 1]) ⟨tm, g⟩ (en26 K) := by
  refine seq_i (a := nd26 [1, 1, 1, 0]) (b := nd26 [1, 1, 1, 1]) (k' := kj26_3  K) (by kernel_rfl) (fun st h => J26_3_ok  K st.tm st.g h) ?_
  refine seq_i (a := nd26 [1, 1, 1, 0, 0]) (b := nd26 [1, 1, 1, 0, 1]) (k' := kj26_4  K) (by kernel_rfl) (fun st h => J26_4_ok  K st.tm st.g h) ?_
  try unfold J26_2 at h
  unfold kj26_4
  generalize @J26_4 = Q26_4 at h ⊢
  unfold kj26_3
  generalize @J26_3 = Q26_3 at h ⊢
  refine code2_sound ok_mono _ _ _ ?_
  refine kmp ?_ h
  generalize Ok Try.prog = C
  try unfold en26
  as_aux_lemma => kernel_rfl

noncomputable def J26_1 (x0 x1 : LV) (g : LHeap)  (K : LV → LHeap → Prop) : Prop :=
  vK (nilCheckL x0) fun t14 =>
  vK (fieldAddrL 1 t14) fun t15 =>
  vK (loadV none t15 g) fun t16 =>
  vK (lookupL Try.prog 80 t16 x1 true g) fun t18 =>
  vK (extractL t18 0) fun t19 =>
  vK (extractL t18 1) fun t20 =>
  J26_2 x0 x1 t19 t20 g  K
abbrev kj26_1  (K : LV → LHeap → Prop) : LSt → Prop := fun st => J26_1 (st.tm 0) (st.tm 1) st.g  K
theorem J26_1_ok  (K : LV → LHeap → Prop) (tm : Nat → LV) (g : LHeap) (h : J26_1 (tm 0) (tm 1) g  K) : codeL Try.prog (Ok Try.prog) (nd26 [1, 1]) ⟨tm, g⟩ (en26 K) := by
  refine seq_i (a := nd26 [1, 1, 0]) (b := nd26 [1, 1, 1]) (k' := kj26_2  K) (by kernel_rfl) (fun st h => J26_2_ok  K st.tm st.g h) ?_
  try unfold J26_1 at h
  unfold kj26_2
  generalize @J26_2 = Q26_2 at h ⊢
  refine code2_sound ok_mono _ _ _ ?_
  refine kmp ?_ h
  generalize Ok Try.prog = C
  try unfold en26
  as_aux_lemma => kernel_rfl

noncomputable def J26_0 (x0 x1 : LV) (g : LHeap)  (K : LV → LHeap → Prop) : Prop :=
  Ok Try.prog 40 [x0] g fun t10 g =>
  vK (unL .not t10) fun t11 =>
  ifB t11 (
  K (.bool false) g) (
  J26_1 x0 x1 g  K)
abbrev kj26_0  (K : LV → LHeap → Prop) : LSt → Prop := fun st => J26_0 (st.tm 0) (st.tm 1) st.g  K
theorem J26_0_ok  (K : LV → LHeap → Prop) (tm : Nat → LV) (g : LHeap) (h : J26_0 (tm 0) (tm 1) g  K) : codeL Try.prog (Ok Try.prog) (nd26 [1]) ⟨tm, g⟩ (en26 K) := by
  refine seq_i (a := nd26 [1, 0]) (b := nd26 [1, 1]) (k' := kj26_1  K) (by kernel_rfl) (fun st h => J26_1_ok  K st.tm st.g h) ?_
  try unfold J26_0 at h
  unfold kj26_1
  generalize @J26_1 = Q26_1 at h ⊢
  refine code2_sound ok_mono _ _ _ ?_
  refine kmp ?_ h
  generalize Ok Try.prog = C
  try unfold en26
  as_aux_lemma => kernel_rfl

noncomputable def F26 (x0 x1 : LV) (g : LHeap) (K : LV → LHeap → Prop) : Prop :=
  J26_0 x0 x1 g  K
theorem ok26 {x0 x1 : LV} {g : LHeap} {K : LV → LHeap → Prop} (h : g.Wf → (∀ v ∈ ([x0, x1] : List LV), ∀ b ∈ v.objs, b < g.next) → F26 x0 x1 g K) : Ok Try.prog 26 [x0, x1] g K := by
  refine ok_fw Try.mixed Try.func26 (by kernel_rfl) (by kernel_rfl) (c := nd26 []) (by kernel_rfl) fun wf lt => ?_
  rw [← en26_eq]
  replace h := h wf lt
  generalize hs : startL _ = tm
  replace h : F26 (tm 0) (tm 1) g K := by rw [← hs]; exact h
  refine seq_i (a := nd26 [0]) (b := nd26 [1]) (k' := kj26_0  K) (by kernel_rfl) (fun st h => J26_0_ok  K st.tm st.g h) ?_
  try unfold F26 at h
  unfold kj26_0
  generalize @J26_0 = Q26_0 at h ⊢
  refine code2_sound ok_mono _ _ _ ?_
  refine kmp ?_ h
  generalize Ok Try.prog = C
  try unfold en26
  as_aux_lemma => kernel_rfl

/-! (*parapet/waitq.Queue).Move (69 slots) -/
noncomputable def en27 (K : LV → LHeap → Prop) : LEx → LSt → Prop := fun e st => match e with
  | .exit _ => False
  | _ => K (st.tm 8) st.g
theorem en27_eq (K : LV → LHeap → Prop) : en27 K = endL Try.prog Try.f27 K := by
  funext e st
  cases e <;> kernel_rfl
noncomputable def nd27 (p : List Nat) : Code := subC p (bodyC Try.prog 27)
noncomputable def J27_3 (x9 : LV) (g : LHeap)  (K : LV → LHeap → Prop) : Prop :=
  K x9 g
abbrev kj27_3  (K : LV → LHeap → Prop) : LSt → Prop := fun st => J27_3 (st.tm 9) st.g  K
theorem J27_3_ok  (K : LV → LHeap → Prop) (tm : Nat → LV) (g : LHeap) (h : J27_3 (tm 9) g  K) : codeL Try.prog (Ok Try.prog) (nd27 [1, 1, 1, 1]) ⟨tm, g⟩ (en27 K) := by
  try unfold J27_3 at h
  refine code2_sound ok_mono _ _ _ ?_
  refine kmp ?_ h
  generalize Ok Try.prog = C
  try unfold en27
  as_aux_lemma => kernel_rfl

noncomputable def L27_5 (x0 x3 x5 x6 x17 x18 : LV) (x9 x19 : LV) (g : LHeap) (N5 : LV × LV → LHeap → Prop) (K : LV → LHeap → Prop) : Prop :=
  vK (binL Try.prog .lss 3 false x19 x18) fun t20 =>
  ifB t20 (
  vK (ixAddrL none 1 x17 x19) fun t21 =>
  vK (loadV none t21 g) fun t22 =>
  vK (binL Try.prog .geq 3 false x9 x3) fun t25 =>
  ifB t25 (
  J27_3 x9 g  K) (
  vK (nilCheckL x0) fun t27 =>
  vK (fieldAddrL 1 t27) fun t28 =>
  vK (loadV none t28 g) fun t29 =>
  vK (lookupL Try.prog 80 t29 t22 false g) fun t31 =>
  vK (loadV (some 3) x6 g) fun t32 =>
  ((Ok Try.prog 41 [t31, t32] g fun t33 g =>
  
  ifB t33 (
  vK (binL Try.prog .add 3 true x19 (.int .i64 (1))) fun t67 =>
  N5 (x9, t67) g) (
  vK (loadV (some 3) x5 g) fun t36 =>
  Ok Try.prog 49 [x0, t22, t36] g fun t37 g =>
  vK (nilCheckL x0) fun t39 =>
  vK (fieldAddrL 1 t39) fun t40 =>
  vK (loadV none t40 g) fun t41 =>
  vK (lookupL Try.prog 80 t41 t22 false g) fun t43 =>
  vK (nilCheckL x0) fun t45 =>
  vK (fieldAddrL 1 t45) fun t46 =>
  vK (loadV none t46 g) fun t47 =>
  vK (lookupL Try.prog 80 t47 t22 false g) fun t49 =>
  vK (loadV (some 3) x5 g) fun t50 =>
  vK (loadV (some 3) x6 g) fun t52 =>
  ((Ok Try.prog 50 [t49, t50] g fun t51 g =>
  ((loadV (some 3) x6 g) = some t52 ∧ ((lookupL Try.prog 80 t41 t22 false g) = some t43 ∧ ((loadV none t40 g) = some t41 ∧ 
  vK (ixAddrL none 3 t43 t51) fun t53 =>
  ((gK (storeV 3 t53 t52 g) fun g =>
  
  vK (nilCheckL x0) fun t55 =>
  vK (fieldAddrL 0 t55) fun t56 =>
  vK (loadV none t56 g) fun t57 =>
  vK (loadV (some 3) x6 g) fun t58 =>
  ((oK (buildSliceL Try.prog 24 1 [(0, t22)] g) fun t61 g =>
  ((loadV (some 3) x6 g) = some t58 ∧ ((loadV none t56 g) = some t57 ∧ 
  ((oK (mapEntryL Try.prog 79 t57 t58 g) fun t62 g =>
  
  vK (extractL t62 0) fun t59 =>
  vK (extractL t62 1) fun t64 =>
  ((oK (builtinL Try.prog .append [24, 24] [t59, t61] g) fun t63 g =>
  
  ((gK (entryStoreL t57 t64 t63 g) fun g =>
  
  vK (binL Try.prog .add 3 true x9 (.int .i64 (1))) fun t66 =>
  vK (binL Try.prog .add 3 true x19 (.int .i64 (1))) fun t67 =>
  N5 (t66, t67) g) ∧ True)) ∧ True)) ∧ True)))) ∧ True)) ∧ True))))) ∧ True))) ∧ True))) (
  J27_3 x9 g  K)
theorem L27_5_ok (R5 : LV × LV × LV × LV × LV × LV → LV × LV → LHeap → Prop) (K : LV → LHeap → Prop) (tm : Nat → LV) (g : LHeap) (h : L27_5 (tm 0) (tm 3) (tm 5) (tm 6) (tm 17) (tm 18) (tm 9) (tm 19) g (fun s g => R5 ((tm 0), (tm 3), (tm 5), (tm 6), (tm 17), (tm 18)) s g) K) : codeL Try.prog (Ok Try.prog) (nd27 [1, 1, 1, 0, 1, 0, 0]) ⟨tm, g⟩ (roundK (fun tm : Nat → LV => (tm 0, tm 3, tm 5, tm 6, tm 17, tm 18)) (fun tm : Nat → LV => (tm 9, tm 19)) R5 (exitL 0 (thenL (kj27_3  K) (en27 K)))) := by
  try unfold L27_5 at h
  unfold kj27_3
  generalize @J27_3 = Q27_3 at h ⊢
  refine code3_sound ok_mono (pl := [(10, (.lt 0 false (.lt 1 false (.lt 2 false (.lt 3 true (.lt 4 false (.lt 5 true (.lt 6 false (.lt 7 false (.lt 8 false (.lt 9 false (.lt 10 false (.lt 11 false (.lt 12 false (.lt 14 true (.hv 13 (.lt 15 false (.hv 16 .nil .nil)) .nil))))))))))))))))]) _ _ _ (by kernel_rfl) ?_
  refine kmp ?_ h
  generalize Ok Try.prog = C
  try unfold en27
  as_aux_lemma => kernel_rfl

noncomputable def J27_4 (x0 x3 x5 x6 x9 x17 x18 x19 : LV) (g : LHeap)  (K : LV → LHeap → Prop) : Prop :=
  loopP (fun s g N => L27_5 x0 x3 x5 x6 x17 x18 s.1 s.2 g N  K) (x9, x19) g
abbrev kj27_4  (K : LV → LHeap → Prop) : LSt → Prop := fun st => J27_4 (st.tm 0) (st.tm 3) (st.tm 5) (st.tm 6) (st.tm 9) (st.tm 17) (st.tm 18) (st.tm 19) st.g  K
theorem J27_4_ok  (K : LV → LHeap → Prop) (tm : Nat → LV) (g : LHeap) (h : J27_4 (tm 0) (tm 3) (tm 5) (tm 6) (tm 9) (tm 17) (tm 18) (tm 19) g  K) : codeL Try.prog (Ok Try.prog) (nd27 [1, 1, 1, 0, 1]) ⟨tm, g⟩ (thenL (kj27_3  K) (en27 K)) := by
  refine block_i (b := nd27 [1, 1, 1, 0, 1, 0]) (i := 0) (by kernel_rfl) ?_
  exact loop_glue (b := nd27 [1, 1, 1, 0, 1, 0, 0]) (by kernel_rfl) (fun tm : Nat → LV => (tm 0, tm 3, tm 5, tm 6, tm 17, tm 18)) (fun tm : Nat → LV => (tm 9, tm 19)) (fun a s g N => L27_5 a.1 a.2.1 a.2.2.1 a.2.2.2.1 a.2.2.2.2.1 a.2.2.2.2.2 s.1 s.2 g N  K) (fun tm g R h => L27_5_ok R  K tm g h) tm g h

noncomputable def J27_2 (x0 x3 x5 x6 x9 : LV) (g : LHeap)  (K : LV → LHeap → Prop) : Prop :=
  vK (loadV (some 3) x5 g) fun t16 =>
  Ok Try.prog 17 [x0, t16] g fun t17 g =>
  oK (builtinL Try.prog .len [24] [t17] g) fun t18 g =>
  J27_4 x0 x3 x5 x6 x9 t17 t18 (.int .i64 (0)) g  K
abbrev kj27_2  (K : LV → LHeap → Prop) : LSt → Prop := fun st => J27_2 (st.tm 0) (st.tm 3) (st.tm 5) (st.tm 6) (st.tm 9) st.g  K
theorem J27_2_ok  (K : LV → LHeap → Prop) (tm : Nat → LV) (g : LHeap) (h : J27_2 (tm 0) (tm 3) (tm 5) (tm 6) (tm 9) g  K) : codeL Try.prog (Ok Try.prog) (nd27 [1, 1, 1]) ⟨tm, g⟩ (en27 K) := by
  refine seq_i (a := nd27 [1, 1, 1, 0]) (b := nd27 [1, 1, 1, 1]) (k' := kj27_3  K) (by kernel_rfl) (fun st h => J27_3_ok  K st.tm st.g h) ?_
  refine seq_i (a := nd27 [1, 1, 1, 0, 0]) (b := nd27 [1, 1, 1, 0, 1]) (k' := kj27_4  K) (by kernel_rfl) (fun st h => J27_4_ok  K st.tm st.g h) ?_
  try unfold J27_2 at h
  unfold kj27_4
  generalize @J27_4 = Q27_4 at h ⊢
  unfold kj27_3
  generalize @J27_3 = Q27_3 at h ⊢
  refine code2_sound ok_mono _ _ _ ?_
  refine kmp ?_ h
  generalize Ok Try.prog = C
  try unfold en27
  as_aux_lemma => kernel_rfl

noncomputable def J27_1 (x0 x3 x5 x6 : LV) (g : LHeap)  (K : LV → LHeap → Prop) : Prop :=
  J27_2 x0 x3 x5 x6 (.int .i64 (0)) g  K
abbrev kj27_1  (K : LV → LHeap → Prop) : LSt → Prop := fun st => J27_1 (st.tm 0) (st.tm 3) (st.tm 5) (st.tm 6) st.g  K
theorem J27_1_ok  (K : LV → LHeap → Prop) (tm : Nat → LV) (g : LHeap) (h : J27_1 (tm 0) (tm 3) (tm 5) (tm 6) g  K) : codeL Try.prog (Ok Try.prog) (nd27 [1, 1]) ⟨tm, g⟩ (en27 K) := by
  refine seq_i (a := nd27 [1, 1, 0]) (b := nd27 [1, 1, 1]) (k' := kj27_2  K) (by kernel_rfl) (fun st h => J27_2_ok  K st.tm st.g h) ?_
  try unfold J27_1 at h
  unfold kj27_2
  generalize @J27_2 = Q27_2 at h ⊢
  refine code2_sound ok_mono _ _ _ ?_
  refine kmp ?_ h
  generalize Ok Try.prog = C
  try unfold en27
  as_aux_lemma => kernel_rfl

noncomputable def J27_0 (x0 x3 x5 x6 : LV) (g : LHeap)  (K : LV → LHeap → Prop) : Prop :=
  vK (loadV (some 3) x5 g) fun t12 =>
  vK (loadV (some 3) x6 g) fun t13 =>
  vK (binL Try.prog .eql 23 false t12 t13) fun t14 =>
  ifB t14 (
  K (.int .i64 (0)) g) (
  J27_1 x0 x3 x5 x6 g  K)
abbrev kj27_0  (K : LV → LHeap → Prop) : LSt → Prop := fun st => J27_0 (st.tm 0) (st.tm 3) (st.tm 5) (st.tm 6) st.g  K
theorem J27_0_ok  (K : LV → LHeap → Prop) (tm : Nat → LV) (g : LHeap) (h : J27_0 (tm 0) (tm 3) (tm 5) (tm 6) g  K) : codeL Try.prog (Ok Try.prog) (nd27 [1]) ⟨tm, g⟩ (en27 K) := by
  refine seq_i (a := nd27 [1, 0]) (b := nd27 [1, 1]) (k' := kj27_1  K) (by kernel_rfl) (fun st h => J27_1_ok  K st.tm st.g h) ?_
  try unfold J27_0 at h
  unfold kj27_1
  generalize @J27_1 = Q27_1 at h ⊢
  refine code2_sound ok_mono _ _ _ ?_
  refine kmp ?_ h
  generalize Ok Try.prog = C
  try unfold en27
  as_aux_lemma => kernel_rfl

noncomputable def F27 (x0 x1 x2 x3 : LV) (g : LHeap) (K : LV → LHeap → Prop) : Prop :=
  oK (newL x1 g) fun t5 g =>
  oK (newL x2 g) fun t6 g =>
  J27_0 x0 x3 t5 t6 g  K
theorem ok27 {x0 x1 x2 x3 : LV} {g : LHeap} {K : LV → LHeap → Prop} (h : g.Wf → (∀ v ∈ ([x0, x1, x2, x3] : List LV), ∀ b ∈ v.objs, b < g.next) → F27 x0 x1 x2 x3 g K) : Ok Try.prog 27 [x0, x1, x2, x3] g K := by
  refine ok_fw Try.mixed Try.func27 (by kernel_rfl) (by kernel_rfl) (c := nd27 []) (by kernel_rfl) fun wf lt => ?_
  rw [← en27_eq]
  replace h := h wf lt
  generalize hs : startL _ = tm
  replace h : F27 (tm 0) (tm 1) (tm 2) (tm 3) g K := by rw [← hs]; exact h
  refine seq_i (a := nd27 [0]) (b := nd27 [1]) (k' := kj27_0  K) (by kernel_rfl) (fun st h => J27_0_ok  K st.tm st.g h) ?_
  try unfold F27 at h
  unfold kj27_0
  generalize @J27_0 = Q27_0 at h ⊢
  refine code2_sound ok_mono _ _ _ ?_
  refine kmp ?_ h
  generalize Ok Try.prog = C
  try unfold en27
  as_aux_lemma => kernel_rfl

/-! (*parapet/waitq.Queue).Len (11 slots) -/
noncomputable def en28 (K : LV → LHeap → Prop) : LEx → LSt → Prop := fun e st => match e with
  | .exit _ => False
  | _ => K (st.tm 2) st.g
theorem en28_eq (K : LV → LHeap → Prop) : en28 K = endL Try.prog Try.f28 K := by
  funext e st
  cases e <;> kernel_rfl
noncomputable def nd28 (p : List Nat) : Code := subC p (bodyC Try.prog 28)
noncomputable def F28 (x0 : LV) (g : LHeap) (K : LV → LHeap → Prop) : Prop :=
  Ok Try.prog 40 [x0] g fun t4 g =>
  vK (unL .not t4) fun t5 =>
  ifB t5 (
  K (.int .i64 (0)) g) (
  vK (nilCheckL x0) fun t7 =>
  vK (fieldAddrL 1 t7) fun t8 =>
  vK (loadV none t8 g) fun t9 =>
  oK (builtinL Try.prog .len [80] [t9] g) fun t10 g =>
  K t10 g)
theorem ok28 {x0 : LV} {g : LHeap} {K : LV → LHeap → Prop} (h : g.Wf → (∀ v ∈ ([x0] : List LV), ∀ b ∈ v.objs, b < g.next) → F28 x0 g K) : Ok Try.prog 28 [x0] g K := by
  refine ok_fw Try.mixed Try.func28 (by kernel_rfl) (by kernel_rfl) (c := nd28 []) (by kernel_rfl) fun wf lt => ?_
  rw [← en28_eq]
  replace h := h wf lt
  generalize hs : startL _ = tm
  replace h : F28 (tm 0) g K := by rw [← hs]; exact h
  try unfold F28 at h
  refine code2_sound ok_mono _ _ _ ?_
  refine kmp ?_ h
  generalize Ok Try.prog = C
  try unfold en28
  as_aux_lemma => kernel_rfl

/-! (*parapet/waitq.Queue).Fork (47 slots) -/
noncomputable def en37 (K : LV → LHeap → Prop) : LEx → LSt → Prop := fun e st => match e with
  | .exit _ => False
  | _ => K (st.tm 2) st.g
theorem en37_eq (K : LV → LHeap → Prop) : en37 K = endL Try.prog Try.f37 K := by
  funext e st
  cases e <;> kernel_rfl
noncomputable def nd37 (p : List Nat) : Code := subC p (bodyC Try.prog 37)
noncomputable def J37_4 (x3 : LV) (g : LHeap)  (K : LV → LHeap → Prop) : Prop :=
  K x3 g
abbrev kj37_4  (K : LV → LHeap → Prop) : LSt → Prop := fun st => J37_4 (st.tm 3) st.g  K
theorem J37_4_ok  (K : LV → LHeap → Prop) (tm : Nat → LV) (g : LHeap) (h : J37_4 (tm 3) g  K) : codeL Try.prog (Ok Try.prog) (nd37 [1, 1, 1, 1, 1]) ⟨tm, g⟩ (en37 K) := by
  try unfold J37_4 at h
  refine code2_sound ok_mono _ _ _ ?_
  refine kmp ?_ h
  generalize Ok Try.prog = C
  try unfold en37
  as_aux_lemma => kernel_rfl

noncomputable def L37_6 (x3 x33 : LV) (g : LHeap) (N6 : Unit → LHeap → Prop) (K : LV → LHeap → Prop) : Prop :=
  nextMapL x33 g fun t34 g =>
  vK (extractL t34 0) fun t35 =>
  ifB t35 (
  vK (entryL x33 g) fun t36 =>
  vK (extractL t36 0) fun t37 =>
  vK (extractL t36 1) fun t38 =>
  vK (nilCheckL x3) fun t40 =>
  vK (fieldAddrL 1 t40) fun t41 =>
  vK (loadV none t41 g) fun t42 =>
  ((Ok Try.prog 42 [t38] g fun t45 g =>
  ((loadV none t41 g) = some t42 ∧ 
  ((gK (mapSetL Try.prog 80 t42 t37 t45 g) fun g =>
  
  N6 () g) ∧ True))) ∧ True)) (
  J37_4 x3 g  K)
theorem L37_6_ok (R6 : LV × LV → Unit → LHeap → Prop) (K : LV → LHeap → Prop) (tm : Nat → LV) (g : LHeap) (h : L37_6 (tm 3) (tm 33) g (fun s g => R6 ((tm 3), (tm 33)) s g) K) : codeL Try.prog (Ok Try.prog) (nd37 [1, 1, 1, 1, 0, 1, 0, 0]) ⟨tm, g⟩ (roundK (fun tm : Nat → LV => (tm 3, tm 33)) (fun tm : Nat → LV => ()) R6 (exitL 2 (thenL (kj37_4  K) (en37 K)))) := by
  try unfold L37_6 at h
  unfold kj37_4
  generalize @J37_4 = Q37_4 at h ⊢
  refine code2_sound ok_mono _ _ _ ?_
  refine kmp ?_ h
  generalize Ok Try.prog = C
  try unfold en37
  as_aux_lemma => kernel_rfl

noncomputable def J37_5 (x3 x33 : LV) (g : LHeap)  (K : LV → LHeap → Prop) : Prop :=
  loopP (fun s g N => L37_6 x3 x33  g N  K) () g
abbrev kj37_5  (K : LV → LHeap → Prop) : LSt → Prop := fun st => J37_5 (st.tm 3) (st.tm 33) st.g  K
theorem J37_5_ok  (K : LV → LHeap → Prop) (tm : Nat → LV) (g : LHeap) (h : J37_5 (tm 3) (tm 33) g  K) : codeL Try.prog (Ok Try.prog) (nd37 [1, 1, 1, 1, 0, 1]) ⟨tm, g⟩ (thenL (kj37_4  K) (en37 K)) := by
  refine block_i (b := nd37 [1, 1, 1, 1, 0, 1, 0]) (i := 2) (by kernel_rfl) ?_
  exact loop_glue (b := nd37 [1, 1, 1, 1, 0, 1, 0, 0]) (by kernel_rfl) (fun tm : Nat → LV => (tm 3, tm 33)) (fun tm : Nat → LV => ()) (fun a s g N => L37_6 a.1 a.2  g N  K) (fun tm g R h => L37_6_ok R  K tm g h) tm g h

noncomputable def J37_3 (x0 x3 : LV) (g : LHeap)  (K : LV → LHeap → Prop) : Prop :=
  vK (nilCheckL x0) fun t30 =>
  vK (fieldAddrL 1 t30) fun t31 =>
  vK (loadV none t31 g) fun t32 =>
  oK (rangeL Try.prog 80 t32 g) fun t33 g =>
  J37_5 x3 t33 g  K
abbrev kj37_3  (K : LV → LHeap → Prop) : LSt → Prop := fun st => J37_3 (st.tm 0) (st.tm 3) st.g  K
theorem J37_3_ok  (K : LV → LHeap → Prop) (tm : Nat → LV) (g : LHeap) (h : J37_3 (tm 0) (tm 3) g  K) : codeL Try.prog (Ok Try.prog) (nd37 [1, 1, 1, 1]) ⟨tm, g⟩ (en37 K) := by
  refine seq_i (a := nd37 [1, 1, 1, 1, 0]) (b := nd37 [1, 1, 1, 1, 1]) (k' := kj37_4  K) (by kernel_rfl) (fun st h => J37_4_ok  K st.tm st.g h) ?_
  refine seq_i (a := nd37 [1, 1, 1, 1, 0, 0]) (b := nd37 [1, 1, 1, 1, 0, 1]) (k' := kj37_5  K) (by kernel_rfl) (fun st h => J37_5_ok  K st.tm st.g h) ?_
  try unfold J37_3 at h
  unfold kj37_5
  generalize @J37_5 = Q37_5 at h ⊢
  unfold kj37_4
  generalize @J37_4 = Q37_4 at h ⊢
  refine code2_sound ok_mono _ _ _ ?_
  refine kmp ?_ h
  generalize Ok Try.prog = C
  try unfold en37
  as_aux_lemma => kernel_rfl

noncomputable def L37_8 (x0 x3 x16 : LV) (g : LHeap) (N8 : Unit → LHeap → Prop) (K : LV → LHeap → Prop) : Prop :=
  nextMapL x16 g fun t17 g =>
  vK (extractL t17 0) fun t18 =>
  ifB t18 (
  vK (entryL x16 g) fun t19 =>
  vK (extractL t19 0) fun t20 =>
  vK (extractL t19 1) fun t21 =>
  oK (newL (.agg [(.int .i64 (0)), (.int .i64 (0)), (.int .i64 (0))]) g) fun t4 g =>
  gK (storeV 3 t4 t20 g) fun g =>
  vK (nilCheckL x3) fun t23 =>
  vK (fieldAddrL 0 t23) fun t24 =>
  vK (loadV none t24 g) fun t25 =>
  vK (loadV (some 3) t4 g) fun t26 =>
  ((Ok Try.prog 43 [t21] g fun t28 g =>
  ((loadV (some 3) t4 g) = some t26 ∧ ((loadV none t24 g) = some t25 ∧ 
  ((gK (mapSetL Try.prog 79 t25 t26 t28 g) fun g =>
  
  N8 () g) ∧ True)))) ∧ True)) (
  J37_3 x0 x3 g  K)
theorem L37_8_ok (R8 : LV × LV × LV → Unit → LHeap → Prop) (K : LV → LHeap → Prop) (tm : Nat → LV) (g : LHeap) (h : L37_8 (tm 0) (tm 3) (tm 16) g (fun s g => R8 ((tm 0), (tm 3), (tm 16)) s g) K) : codeL Try.prog (Ok Try.prog) (nd37 [1, 1, 1, 0, 1, 0, 0]) ⟨tm, g⟩ (roundK (fun tm : Nat → LV => (tm 0, tm 3, tm 16)) (fun tm : Nat → LV => ()) R8 (exitL 0 (thenL (kj37_3  K) (en37 K)))) := by
  try unfold L37_8 at h
  unfold kj37_3
  generalize @J37_3 = Q37_3 at h ⊢
  refine code2_sound ok_mono _ _ _ ?_
  refine kmp ?_ h
  generalize Ok Try.prog = C
  try unfold en37
  as_aux_lemma => kernel_rfl

noncomputable def J37_7 (x0 x3 x16 : LV) (g : LHeap)  (K : LV → LHeap → Prop) : Prop :=
  loopP (fun s g N => L37_8 x0 x3 x16  g N  K) () g
abbrev kj37_7  (K : LV → LHeap → Prop) : LSt → Prop := fun st => J37_7 (st.tm 0) (st.tm 3) (st.tm 16) st.g  K
theorem J37_7_ok  (K : LV → LHeap → Prop) (tm : Nat → LV) (g : LHeap) (h : J37_7 (tm 0) (tm 3) (tm 16) g  K) : codeL Try.prog (Ok Try.prog) (nd37 [1, 1, 1, 0, 1]) ⟨tm, g⟩ (thenL (kj37_3  K) (en37 K)) := by
  refine block_i (b := nd37 [1, 1, 1, 0, 1, 0]) (i := 0) (by kernel_rfl) ?_
  exact loop_glue (b := nd37 [1, 1, 1, 0, 1, 0, 0]) (by kernel_rfl) (fun tm : Nat → LV => (tm 0, tm 3, tm 16)) (fun tm : Nat → LV => ()) (fun a s g N => L37_8 a.1 a.2.1 a.2.2  g N  K) (fun tm g R h => L37_8_ok R  K tm g h) tm g h

noncomputable def J37_2 (x0 x3 : LV) (g : LHeap)  (K : LV → LHeap → Prop) : Prop :=
  vK (nilCheckL x0) fun t13 =>
  vK (fieldAddrL 0 t13) fun t14 =>
  vK (loadV none t14 g) fun t15 =>
  oK (rangeL Try.prog 79 t15 g) fun t16 g =>
  J37_7 x0 x3 t16 g  K
abbrev kj37_2  (K : LV → LHeap → Prop) : LSt → Prop := fun st => J37_2 (st.tm 0) (st.tm 3) st.g  K
theorem J37_2_ok  (K : LV → LHeap → Prop) (tm : Nat → LV) (g : LHeap) (h : J37_2 (tm 0) (tm 3) g  K) : codeL Try.prog (Ok Try.prog) (nd37 [1, 1, 1]) ⟨tm, g⟩ (en37 K) := by
  refine seq_i (a := nd37 [1, 1, 1, 0]) (b := nd37 [1, 1, 1, 1]) (k' := kj37_3  K) (by kernel_rfl) (fun st h => J37_3_ok  K st.tm st.g h) ?_
  refine seq_i (a := nd37 [1, 1, 1, 0, 0]) (b := nd37 [1, 1, 1, 0, 1]) (k' := kj37_7  K) (by kernel_rfl) (fun st h => J37_7_ok  K st.tm st.g h) ?_
  try unfold J37_2 at h
  unfold kj37_7
  generalize @J37_7 = Q37_7 at h ⊢
  unfold kj37_3
  generalize @J37_3 = Q37_3 at h ⊢
  refine code2_sound ok_mono _ _ _ ?_
  refine kmp ?_ h
  generalize Ok Try.prog = C
  try unfold en37
  as_aux_lemma => kernel_rfl

noncomputable def J37_1 (x0 : LV) (g : LHeap)  (K : LV → LHeap → Prop) : Prop :=
  Ok Try.prog 12 [] g fun t11 g =>
  J37_2 x0 t11 g  K
abbrev kj37_1  (K : LV → LHeap → Prop) : LSt → Prop := fun st => J37_1 (st.tm 0) st.g  K
theorem J37_1_ok  (K : LV → LHeap → Prop) (tm : Nat → LV) (g : LHeap) (h : J37_1 (tm 0) g  K) : codeL Try.prog (Ok Try.prog) (nd37 [1, 1]) ⟨tm, g⟩ (en37 K) := by
  refine seq_i (a := nd37 [1, 1, 0]) (b := nd37 [1, 1, 1]) (k' := kj37_2  K) (by kernel_rfl) (fun st h => J37_2_ok  K st.tm st.g h) ?_
  try unfold J37_1 at h
  unfold kj37_2
  generalize @J37_2 = Q37_2 at h ⊢
  refine code2_sound ok_mono _ _ _ ?_
  refine kmp ?_ h
  generalize Ok Try.prog = C
  try unfold en37
  as_aux_lemma => kernel_rfl

noncomputable def J37_0 (x0 : LV) (g : LHeap)  (K : LV → LHeap → Prop) : Prop :=
  Ok Try.prog 40 [x0] g fun t9 g =>
  vK (unL .not t9) fun t10 =>
  ifB t10 (
  K .nilp g) (
  J37_1 x0 g  K)
abbrev kj37_0  (K : LV → LHeap → Prop) : LSt → Prop := fun st => J37_0 (st.tm 0) st.g  K
theorem J37_0_ok  (K : LV → LHeap → Prop) (tm : Nat → LV) (g : LHeap) (h : J37_0 (tm 0) g  K) : codeL Try.prog (Ok Try.prog) (nd37 [1]) ⟨tm, g⟩ (en37 K) := by
  refine seq_i (a := nd37 [1, 0]) (b := nd37 [1, 1]) (k' := kj37_1  K) (by kernel_rfl) (fun st h => J37_1_ok  K st.tm st.g h) ?_
  try unfold J37_0 at h
  unfold kj37_1
  generalize @J37_1 = Q37_1 at h ⊢
  refine code2_sound ok_mono _ _ _ ?_
  refine kmp ?_ h
  generalize Ok Try.prog = C
  try unfold en37
  as_aux_lemma => kernel_rfl

noncomputable def F37 (x0 : LV) (g : LHeap) (K : LV → LHeap → Prop) : Prop :=
  J37_0 x0 g  K
theorem ok37 {x0 : LV} {g : LHeap} {K : LV → LHeap → Prop} (h : g.Wf → (∀ v ∈ ([x0] : List LV), ∀ b ∈ v.objs, b < g.next) → F37 x0 g K) : Ok Try.prog 37 [x0] g K := by
  refine ok_fw Try.mixed Try.func37 (by kernel_rfl) (by kernel_rfl) (c := nd37 []) (by kernel_rfl) fun wf lt => ?_
  rw [← en37_eq]
  replace h := h wf lt
  generalize hs : startL _ = tm
  replace h : F37 (tm 0) g K := by rw [← hs]; exact h
  refine seq_i (a := nd37 [0]) (b := nd37 [1]) (k' := kj37_0  K) (by kernel_rfl) (fun st h => J37_0_ok  K st.tm st.g h) ?_
  try unfold F37 at h
  unfold kj37_0
  generalize @J37_0 = Q37_0 at h ⊢
  refine code2_sound ok_mono _ _ _ ?_
  refine kmp ?_ h
  generalize Ok Try.prog = C
  try unfold en37
  as_aux_lemma => kernel_rfl

/-! (*parapet/waitq.Queue).On (15 slots) -/
noncomputable def en39 (K : LV → LHeap → Prop) : LEx → LSt → Prop := fun e st => match e with
  | .exit _ => False
  | _ => K (st.tm 4) st.g
theorem en39_eq (K : LV → LHeap → Prop) : en39 K = endL Try.prog Try.f39 K := by
  funext e st
  cases e <;> kernel_rfl
noncomputable def nd39 (p : List Nat) : Code := subC p (bodyC Try.prog 39)
noncomputable def F39 (x0 x1 : LV) (g : LHeap) (K : LV → LHeap → Prop) : Prop :=
  Ok Try.prog 40 [x0] g fun t6 g =>
  vK (unL .not t6) fun t7 =>
  ifB t7 (
  K .nils g) (
  vK (nilCheckL x0) fun t9 =>
  vK (fieldAddrL 1 t9) fun t10 =>
  vK (loadV none t10 g) fun t11 =>
  vK (lookupL Try.prog 80 t11 x1 false g) fun t13 =>
  Ok Try.prog 42 [t13] g fun t14 g =>
  K t14 g)
theorem ok39 {x0 x1 : LV} {g : LHeap} {K : LV → LHeap → Prop} (h : g.Wf → (∀ v ∈ ([x0, x1] : List LV), ∀ b ∈ v.objs, b < g.next) → F39 x0 x1 g K) : Ok Try.prog 39 [x0, x1] g K := by
  refine ok_fw Try.mixed Try.func39 (by kernel_rfl) (by kernel_rfl) (c := nd39 []) (by kernel_rfl) fun wf lt => ?_
  rw [← en39_eq]
  replace h := h wf lt
  generalize hs : startL _ = tm
  replace h : F39 (tm 0) (tm 1) g K := by rw [← hs]; exact h
  try unfold F39 at h
  refine code2_sound ok_mono _ _ _ ?_
  refine kmp ?_ h
  generalize Ok Try.prog = C
  try unfold en39
  as_aux_lemma => kernel_rfl

/-! (*parapet/waitq.Queue).made (12 slots) -/
noncomputable def en40 (K : LV → LHeap → Prop) : LEx → LSt → Prop := fun e st => match e with
  | .exit _ => False
  | _ => K (st.tm 2) st.g
theorem en40_eq (K : LV → LHeap → Prop) : en40 K = endL Try.prog Try.f40 K := by
  funext e st
  cases e <;> kernel_rfl
noncomputable def nd40 (p : List Nat) : Code := subC p (bodyC Try.prog 40)
noncomputable def F40 (x0 : LV) (g : LHeap) (K : LV → LHeap → Prop) : Prop :=
  vK (binL Try.prog .neq 25 true x0 .nilp) fun t4 =>
  gd t4 true g (fun K => K x0 g) fun t6 g =>
  gd t4 true g (fun K => vK (nilCheckL t6) fun v => K v g) fun t7 g =>
  gd t4 true g (fun K => vK (fieldAddrL 1 t7) fun v => K v g) fun t8 g =>
  gd t4 true g (fun K => vK (loadV none t8 g) fun v => K v g) fun t9 g =>
  gd t4 true g (fun K => vK (binL Try.prog .neq 80 true t9 .nilm) fun v => K v g) fun t10 g =>
  vK (pickL t4 t10 (.bool false)) fun t11 =>
  K t11 g
theorem ok40 {x0 : LV} {g : LHeap} {K : LV → LHeap → Prop} (h : g.Wf → (∀ v ∈ ([x0] : List LV), ∀ b ∈ v.objs, b < g.next) → F40 x0 g K) : Ok Try.prog 40 [x0] g K := by
  refine ok_fw Try.mixed Try.func40 (by kernel_rfl) (by kernel_rfl) (c := nd40 []) (by kernel_rfl) fun wf lt => ?_
  rw [← en40_eq]
  replace h := h wf lt
  generalize hs : startL _ = tm
  replace h : F40 (tm 0) g K := by rw [← hs]; exact h
  try unfold F40 at h
  refine code2_sound ok_mono _ _ _ ?_
  refine kmp ?_ h
  generalize Ok Try.prog = C
  try unfold en40
  as_aux_lemma => kernel_rfl

/-! slices.Contains[[]parapet/api.Chan,parapet/api.Chan] (9 slots) -/
noncomputable def en41 (K : LV → LHeap → Prop) : LEx → LSt → Prop := fun e st => match e with
  | .exit _ => False
  | _ => K (st.tm 4) st.g
theorem en41_eq (K : LV → LHeap → Prop) : en41 K = endL Try.prog Try.f41 K := by
  funext e st
  cases e <;> kernel_rfl
noncomputable def nd41 (p : List Nat) : Code := subC p (bodyC Try.prog 41)
noncomputable def F41 (x0 x1 : LV) (g : LHeap) (K : LV → LHeap → Prop) : Prop :=
  oK (newL x1 g) fun t3 g =>
  vK (loadV (some 3) t3 g) fun t6 =>
  Ok Try.prog 50 [x0, t6] g fun t7 g =>
  vK (binL Try.prog .geq 3 true t7 (.int .i64 (0))) fun t8 =>
  K t8 g
theorem ok41 {x0 x1 : LV} {g : LHeap} {K : LV → LHeap → Prop} (h : g.Wf → (∀ v ∈ ([x0, x1] : List LV), ∀ b ∈ v.objs, b < g.next) → F41 x0 x1 g K) : Ok Try.prog 41 [x0, x1] g K := by
  refine ok_fw Try.mixed Try.func41 (by kernel_rfl) (by kernel_rfl) (c := nd41 []) (by kernel_rfl) fun wf lt => ?_
  rw [← en41_eq]
  replace h := h wf lt
  generalize hs : startL _ = tm
  replace h : F41 (tm 0) (tm 1) g K := by rw [← hs]; exact h
  try unfold F41 at h
  refine code2_sound ok_mono _ _ _ ?_
  refine kmp ?_ h
  generalize Ok Try.prog = C
  try unfold en41
  as_aux_lemma => kernel_rfl

/-! slices.Clone[[]parapet/api.Chan,parapet/api.Chan] (8 slots) -/
noncomputable def en42 (K : LV → LHeap → Prop) : LEx → LSt → Prop := fun e st => match e with
  | .exit _ => False
  | _ => K (st.tm 2) st.g
theorem en42_eq (K : LV → LHeap → Prop) : en42 K = endL Try.prog Try.f42 K := by
  funext e st
  cases e <;> kernel_rfl
noncomputable def nd42 (p : List Nat) : Code := subC p (bodyC Try.prog 42)
noncomputable def F42 (x0 : LV) (g : LHeap) (K : LV → LHeap → Prop) : Prop :=
  vK (binL Try.prog .eql 30 true x0 .nils) fun t4 =>
  ifB t4 (
  K .nils g) (
  oK (buildSliceL Try.prog 30 0 [] g) fun t5 g =>
  oK (builtinL Try.prog .append [30, 30] [t5, x0] g) fun t7 g =>
  K t7 g)
theorem ok42 {x0 : LV} {g : LHeap} {K : LV → LHeap → Prop} (h : g.Wf → (∀ v ∈ ([x0] : List LV), ∀ b ∈ v.objs, b < g.next) → F42 x0 g K) : Ok Try.prog 42 [x0] g K := by
  refine ok_fw Try.mixed Try.func42 (by kernel_rfl) (by kernel_rfl) (c := nd42 []) (by kernel_rfl) fun wf lt => ?_
  rw [← en42_eq]
  replace h := h wf lt
  generalize hs : startL _ = tm
  replace h : F42 (tm 0) g K := by rw [← hs]; exact h
  try unfold F42 at h
  refine code2_sound ok_mono _ _ _ ?_
  refine kmp ?_ h
  generalize Ok Try.prog = C
  try unfold en42
  as_aux_lemma => kernel_rfl

/-! slices.Clone[[]int,int] (8 slots) -/
noncomputable def en43 (K : LV → LHeap → Prop) : LEx → LSt → Prop := fun e st => match e with
  | .exit _ => False
  | _ => K (st.tm 2) st.g
theorem en43_eq (K : LV → LHeap → Prop) : en43 K = endL Try.prog Try.f43 K := by
  funext e st
  cases e <;> kernel_rfl
noncomputable def nd43 (p : List Nat) : Code := subC p (bodyC Try.prog 43)
noncomputable def F43 (x0 : LV) (g : LHeap) (K : LV → LHeap → Prop) : Prop :=
  vK (binL Try.prog .eql 24 true x0 .nils) fun t4 =>
  ifB t4 (
  K .nils g) (
  oK (buildSliceL Try.prog 24 0 [] g) fun t5 g =>
  oK (builtinL Try.prog .append [24, 24] [t5, x0] g) fun t7 g =>
  K t7 g)
theorem ok43 {x0 : LV} {g : LHeap} {K : LV → LHeap → Prop} (h : g.Wf → (∀ v ∈ ([x0] : List LV), ∀ b ∈ v.objs, b < g.next) → F43 x0 g K) : Ok Try.prog 43 [x0] g K := by
  refine ok_fw Try.mixed Try.func43 (by kernel_rfl) (by kernel_rfl) (c := nd43 []) (by kernel_rfl) fun wf lt => ?_
  rw [← en43_eq]
  replace h := h wf lt
  generalize hs : startL _ = tm
  replace h : F43 (tm 0) g K := by rw [← hs]; exact h
  try unfold F43 at h
  refine code2_sound ok_mono _ _ _ ?_
  refine kmp ?_ h
  generalize Ok Try.prog = C
  try unfold en43
  as_aux_lemma => kernel_rfl

/-! (*parapet/waitq.Queue).leave (30 slots) -/
noncomputable def en49 (K : LV → LHeap → Prop) : LEx → LSt → Prop := fun e st => match e with
  | .exit _ => False
  | _ => K (.tuple []) st.g
theorem en49_eq (K : LV → LHeap → Prop) : en49 K = endL Try.prog Try.f49 K := by
  funext e st
  cases e <;> kernel_rfl
noncomputable def nd49 (p : List Nat) : Code := subC p (bodyC Try.prog 49)
noncomputable def J49_1 (x0 x5 x6 : LV) (g : LHeap)  (K : LV → LHeap → Prop) : Prop :=
  oK (builtinL Try.prog .len [24] [x6] g) fun t17 g =>
  vK (binL Try.prog .eql 3 true t17 (.int .i64 (0))) fun t18 =>
  ifB t18 (
  vK (nilCheckL x0) fun t20 =>
  vK (fieldAddrL 0 t20) fun t21 =>
  vK (loadV none t21 g) fun t22 =>
  vK (loadV (some 3) x5 g) fun t23 =>
  ((oK (builtinL Try.prog .delete [79, 23] [t22, t23] g) fun u g =>
  
  K (.tuple []) g) ∧ True)) (
  vK (nilCheckL x0) fun t25 =>
  vK (fieldAddrL 0 t25) fun t26 =>
  vK (loadV none t26 g) fun t27 =>
  vK (loadV (some 3) x5 g) fun t28 =>
  ((gK (mapSetL Try.prog 79 t27 t28 x6 g) fun g =>
  
  K (.tuple []) g) ∧ True))
abbrev kj49_1  (K : LV → LHeap → Prop) : LSt → Prop := fun st => J49_1 (st.tm 0) (st.tm 5) (st.tm 6) st.g  K
theorem J49_1_ok  (K : LV → LHeap → Prop) (tm : Nat → LV) (g : LHeap) (h : J49_1 (tm 0) (tm 5) (tm 6) g  K) : codeL Try.prog (Ok Try.prog) (nd49 [1, 1]) ⟨tm, g⟩ (en49 K) := by
  try unfold J49_1 at h
  refine code2_sound ok_mono _ _ _ ?_
  refine kmp ?_ h
  generalize Ok Try.prog = C
  try unfold en49
  as_aux_lemma => kernel_rfl

noncomputable def J49_0 (x0 x4 x5 : LV) (g : LHeap)  (K : LV → LHeap → Prop) : Prop :=
  vK (nilCheckL x0) fun t8 =>
  vK (fieldAddrL 0 t8) fun t9 =>
  vK (loadV none t9 g) fun t10 =>
  vK (loadV (some 3) x5 g) fun t11 =>
  vK (lookupL Try.prog 79 t10 t11 false g) fun t12 =>
  ((Ok Try.prog 43 [t12] g fun t13 g =>
  
  ((((lookupL Try.prog 79 t10 t11 false g) = some t12 ∧ ((loadV (some 3) x5 g) = some t11 ∧ ((loadV none t9 g) = some t10 ∧ 
  ((Ok Try.prog 75 [t13, (.func (.func 76) [] [x4])] g fun t15 g =>
  
  J49_1 x0 x5 t15 g  K) ∧ True))))) ∧ True)) ∧ ((((lookupL Try.prog 79 t10 t11 false g) = some t12 ∧ ((loadV (some 3) x5 g) = some t11 ∧ ((loadV none t9 g) = some t10 ∧ 
  ((Ok Try.prog 43 [t12] g fun t13 g =>
  
  ((Ok Try.prog 75 [t13, (.func (.func 76) [] [x4])] g fun t15 g =>
  
  J49_1 x0 x5 t15 g  K) ∧ True)) ∧ True))))) ∧ True))
abbrev kj49_0  (K : LV → LHeap → Prop) : LSt → Prop := fun st => J49_0 (st.tm 0) (st.tm 4) (st.tm 5) st.g  K
theorem J49_0_ok  (K : LV → LHeap → Prop) (tm : Nat → LV) (g : LHeap) (h : J49_0 (tm 0) (tm 4) (tm 5) g  K) : codeL Try.prog (Ok Try.prog) (nd49 [1]) ⟨tm, g⟩ (en49 K) := by
  refine seq_i (a := nd49 [1, 0]) (b := nd49 [1, 1]) (k' := kj49_1  K) (by kernel_rfl) (fun st h => J49_1_ok  K st.tm st.g h) ?_
  try unfold J49_0 at h
  unfold kj49_1
  generalize @J49_1 = Q49_1 at h ⊢
  refine code2_sound ok_mono _ _ _ ?_
  refine kmp ?_ h
  generalize Ok Try.prog = C
  try unfold en49
  as_aux_lemma => kernel_rfl

noncomputable def F49 (x0 x1 x2 : LV) (g : LHeap) (K : LV → LHeap → Prop) : Prop :=
  oK (newL x1 g) fun t4 g =>
  oK (newL x2 g) fun t5 g =>
  J49_0 x0 t4 t5 g  K
theorem ok49 {x0 x1 x2 : LV} {g : LHeap} {K : LV → LHeap → Prop} (h : g.Wf → (∀ v ∈ ([x0, x1, x2] : List LV), ∀ b ∈ v.objs, b < g.next) → F49 x0 x1 x2 g K) : Ok Try.prog 49 [x0, x1, x2] g K := by
  refine ok_fw Try.mixed Try.func49 (by kernel_rfl) (by kernel_rfl) (c := nd49 []) (by kernel_rfl) fun wf lt => ?_
  rw [← en49_eq]
  replace h := h wf lt
  generalize hs : startL _ = tm
  replace h : F49 (tm 0) (tm 1) (tm 2) g K := by rw [← hs]; exact h
  refine seq_i (a := nd49 [0]) (b := nd49 [1]) (k' := kj49_0  K) (by kernel_rfl) (fun st h => J49_0_ok  K st.tm st.g h) ?_
  try unfold F49 at h
  unfold kj49_0
  generalize @J49_0 = Q49_0 at h ⊢
  refine code2_sound ok_mono _ _ _ ?_
  refine kmp ?_ h
  generalize Ok Try.prog = C
  try unfold en49
  as_aux_lemma => kernel_rfl

/-! slices.Index[[]parapet/api.Chan,parapet/api.Chan] (19 slots) -/
noncomputable def en50 (K : LV → LHeap → Prop) : LEx → LSt → Prop := fun e st => match e with
  | .exit _ => False
  | _ => K (st.tm 4) st.g
theorem en50_eq (K : LV → LHeap → Prop) : en50 K = endL Try.prog Try.f50 K := by
  funext e st
  cases e <;> kernel_rfl
noncomputable def nd50 (p : List Nat) : Code := subC p (bodyC Try.prog 50)
noncomputable def J50_1 (g : LHeap)  (K : LV → LHeap → Prop) : Prop :=
  K (.int .i64 (-1)) g
abbrev kj50_1  (K : LV → LHeap → Prop) : LSt → Prop := fun st => J50_1  st.g  K
theorem J50_1_ok  (K : LV → LHeap → Prop) (tm : Nat → LV) (g : LHeap) (h : J50_1  g  K) : codeL Try.prog (Ok Try.prog) (nd50 [1, 1]) ⟨tm, g⟩ (en50 K) := by
  try unfold J50_1 at h
  refine code2_sound ok_mono _ _ _ ?_
  refine kmp ?_ h
  generalize Ok Try.prog = C
  try unfold en50
  as_aux_lemma => kernel_rfl

noncomputable def L50_3 (x0 x3 x7 : LV) (x8 : LV) (g : LHeap) (N3 : LV → LHeap → Prop) (K : LV → LHeap → Prop) : Prop :=
  vK (binL Try.prog .lss 3 false x8 x7) fun t9 =>
  ifB t9 (
  vK (loadV (some 3) x3 g) fun t11 =>
  vK (ixAddrL none 3 x0 x8) fun t14 =>
  vK (loadV (some 3) t14 g) fun t15 =>
  vK (binL Try.prog .eql 23 false t11 t15) fun t16 =>
  ifB t16 (
  K x8 g) (
  vK (binL Try.prog .add 3 true x8 (.int .i64 (1))) fun t18 =>
  N3 t18 g)) (
  J50_1  g  K)
theorem L50_3_ok (R3 : LV × LV × LV → LV → LHeap → Prop) (K : LV → LHeap → Prop) (tm : Nat → LV) (g : LHeap) (h : L50_3 (tm 0) (tm 3) (tm 7) (tm 8) g (fun s g => R3 ((tm 0), (tm 3), (tm 7)) s g) K) : codeL Try.prog (Ok Try.prog) (nd50 [1, 0, 1, 0, 0]) ⟨tm, g⟩ (roundK (fun tm : Nat → LV => (tm 0, tm 3, tm 7)) (fun tm : Nat → LV => tm 8) R3 (exitL 0 (thenL (kj50_1  K) (en50 K)))) := by
  try unfold L50_3 at h
  unfold kj50_1
  generalize @J50_1 = Q50_1 at h ⊢
  refine code2_sound ok_mono _ _ _ ?_
  refine kmp ?_ h
  generalize Ok Try.prog = C
  try unfold en50
  as_aux_lemma => kernel_rfl

noncomputable def J50_2 (x0 x3 x7 x8 : LV) (g : LHeap)  (K : LV → LHeap → Prop) : Prop :=
  loopP (fun s g N => L50_3 x0 x3 x7 s g N  K) x8 g
abbrev kj50_2  (K : LV → LHeap → Prop) : LSt → Prop := fun st => J50_2 (st.tm 0) (st.tm 3) (st.tm 7) (st.tm 8) st.g  K
theorem J50_2_ok  (K : LV → LHeap → Prop) (tm : Nat → LV) (g : LHeap) (h : J50_2 (tm 0) (tm 3) (tm 7) (tm 8) g  K) : codeL Try.prog (Ok Try.prog) (nd50 [1, 0, 1]) ⟨tm, g⟩ (thenL (kj50_1  K) (en50 K)) := by
  refine block_i (b := nd50 [1, 0, 1, 0]) (i := 0) (by kernel_rfl) ?_
  exact loop_glue (b := nd50 [1, 0, 1, 0, 0]) (by kernel_rfl) (fun tm : Nat → LV => (tm 0, tm 3, tm 7)) (fun tm : Nat → LV => tm 8) (fun a s g N => L50_3 a.1 a.2.1 a.2.2 s g N  K) (fun tm g R h => L50_3_ok R  K tm g h) tm g h

noncomputable def J50_0 (x0 x3 : LV) (g : LHeap)  (K : LV → LHeap → Prop) : Prop :=
  oK (builtinL Try.prog .len [30] [x0] g) fun t7 g =>
  J50_2 x0 x3 t7 (.int .i64 (0)) g  K
abbrev kj50_0  (K : LV → LHeap → Prop) : LSt → Prop := fun st => J50_0 (st.tm 0) (st.tm 3) st.g  K
theorem J50_0_ok  (K : LV → LHeap → Prop) (tm : Nat → LV) (g : LHeap) (h : J50_0 (tm 0) (tm 3) g  K) : codeL Try.prog (Ok Try.prog) (nd50 [1]) ⟨tm, g⟩ (en50 K) := by
  refine seq_i (a := nd50 [1, 0]) (b := nd50 [1, 1]) (k' := kj50_1  K) (by kernel_rfl) (fun st h => J50_1_ok  K st.tm st.g h) ?_
  refine seq_i (a := nd50 [1, 0, 0]) (b := nd50 [1, 0, 1]) (k' := kj50_2  K) (by kernel_rfl) (fun st h => J50_2_ok  K st.tm st.g h) ?_
  try unfold J50_0 at h
  unfold kj50_2
  generalize @J50_2 = Q50_2 at h ⊢
  unfold kj50_1
  generalize @J50_1 = Q50_1 at h ⊢
  refine code2_sound ok_mono _ _ _ ?_
  refine kmp ?_ h
  generalize Ok Try.prog = C
  try unfold en50
  as_aux_lemma => kernel_rfl

noncomputable def F50 (x0 x1 : LV) (g : LHeap) (K : LV → LHeap → Prop) : Prop :=
  oK (newL x1 g) fun t3 g =>
  J50_0 x0 t3 g  K
theorem ok50 {x0 x1 : LV} {g : LHeap} {K : LV → LHeap → Prop} (h : g.Wf → (∀ v ∈ ([x0, x1] : List LV), ∀ b ∈ v.objs, b < g.next) → F50 x0 x1 g K) : Ok Try.prog 50 [x0, x1] g K := by
  refine ok_fw Try.mixed Try.func50 (by kernel_rfl) (by kernel_rfl) (c := nd50 []) (by kernel_rfl) fun wf lt => ?_
  rw [← en50_eq]
  replace h := h wf lt
  generalize hs : startL _ = tm
  replace h : F50 (tm 0) (tm 1) g K := by rw [← hs]; exact h
  refine seq_i (a := nd50 [0]) (b := nd50 [1]) (k' := kj50_0  K) (by kernel_rfl) (fun st h => J50_0_ok  K st.tm st.g h) ?_
  try unfold F50 at h
  unfold kj50_0
  generalize @J50_0 = Q50_0 at h ⊢
  refine code2_sound ok_mono _ _ _ ?_
  refine kmp ?_ h
  generalize Ok Try.prog = C
  try unfold en50
  as_aux_lemma => kernel_rfl

/-! slices.DeleteFunc[[]int,int] (42 slots) -/
noncomputable def en75 (K : LV → LHeap → Prop) : LEx → LSt → Prop := fun e st => match e with
  | .exit _ => False
  | _ => K (st.tm 4) st.g
theorem en75_eq (K : LV → LHeap → Prop) : en75 K = endL Try.prog Try.f75 K := by
  funext e st
  cases e <;> kernel_rfl
noncomputable def nd75 (p : List Nat) : Code := subC p (bodyC Try.prog 75)
noncomputable def J75_3 (x0 x5 : LV) (g : LHeap)  (K : LV → LHeap → Prop) : Prop :=
  vK (cutT Try.prog 24 x0 (some x5) none none (limL x0 g)) fun t38 =>
  oK (builtinL Try.prog .clear [24] [t38] g) fun u g =>
  vK (cutT Try.prog 24 x0 none (some x5) none (limL x0 g)) fun t41 =>
  K t41 g
abbrev kj75_3  (K : LV → LHeap → Prop) : LSt → Prop := fun st => J75_3 (st.tm 0) (st.tm 5) st.g  K
theorem J75_3_ok  (K : LV → LHeap → Prop) (tm : Nat → LV) (g : LHeap) (h : J75_3 (tm 0) (tm 5) g  K) : codeL Try.prog (Ok Try.prog) (nd75 [1, 1, 1, 1]) ⟨tm, g⟩ (en75 K) := by
  try unfold J75_3 at h
  refine code2_sound ok_mono _ _ _ ?_
  refine kmp ?_ h
  generalize Ok Try.prog = C
  try unfold en75
  as_aux_lemma => kernel_rfl

noncomputable def L75_5 (x0 x1 : LV) (x5 x6 : LV) (g : LHeap) (N5 : LV × LV → LHeap → Prop) (K : LV → LHeap → Prop) : Prop :=
  oK (builtinL Try.prog .len [24] [x0] g) fun t18 g =>
  vK (binL Try.prog .lss 3 false x6 t18) fun t19 =>
  ifB t19 (
  vK (ixAddrL none 1 x0 x6) fun t24 =>
  vK (loadV none t24 g) fun t25 =>
  callV Try.prog (Ok Try.prog) x1 [t25] g fun t28 g =>
  vK (unL .not t28) fun t29 =>
  ifB t29 (
  vK (ixAddrL none 1 x0 x5) fun t33 =>
  gK (storeV 1 t33 t25 g) fun g =>
  vK (binL Try.prog .add 3 true x5 (.int .i64 (1))) fun t35 =>
  vK (binL Try.prog .add 3 true x6 (.int .i64 (1))) fun t21 =>
  N5 (t35, t21) g) (
  vK (binL Try.prog .add 3 true x6 (.int .i64 (1))) fun t21 =>
  N5 (x5, t21) g)) (
  J75_3 x0 x5 g  K)
theorem L75_5_ok (R5 : LV × LV → LV × LV → LHeap → Prop) (K : LV → LHeap → Prop) (tm : Nat → LV) (g : LHeap) (h : L75_5 (tm 0) (tm 1) (tm 5) (tm 6) g (fun s g => R5 ((tm 0), (tm 1)) s g) K) : codeL Try.prog (Ok Try.prog) (nd75 [1, 1, 1, 0, 1, 0, 0]) ⟨tm, g⟩ (roundK (fun tm : Nat → LV => (tm 0, tm 1)) (fun tm : Nat → LV => (tm 5, tm 6)) R5 (exitL 0 (thenL (kj75_3  K) (en75 K)))) := by
  try unfold L75_5 at h
  unfold kj75_3
  generalize @J75_3 = Q75_3 at h ⊢
  refine code2_sound ok_mono _ _ _ ?_
  refine kmp ?_ h
  generalize Ok Try.prog = C
  try unfold en75
  as_aux_lemma => kernel_rfl

noncomputable def J75_4 (x0 x1 x5 x6 : LV) (g : LHeap)  (K : LV → LHeap → Prop) : Prop :=
  loopP (fun s g N => L75_5 x0 x1 s.1 s.2 g N  K) (x5, x6) g
abbrev kj75_4  (K : LV → LHeap → Prop) : LSt → Prop := fun st => J75_4 (st.tm 0) (st.tm 1) (st.tm 5) (st.tm 6) st.g  K
theorem J75_4_ok  (K : LV → LHeap → Prop) (tm : Nat → LV) (g : LHeap) (h : J75_4 (tm 0) (tm 1) (tm 5) (tm 6) g  K) : codeL Try.prog (Ok Try.prog) (nd75 [1, 1, 1, 0, 1]) ⟨tm, g⟩ (thenL (kj75_3  K) (en75 K)) := by
  refine block_i (b := nd75 [1, 1, 1, 0, 1, 0]) (i := 0) (by kernel_rfl) ?_
  exact loop_glue (b := nd75 [1, 1, 1, 0, 1, 0, 0]) (by kernel_rfl) (fun tm : Nat → LV => (tm 0, tm 1)) (fun tm : Nat → LV => (tm 5, tm 6)) (fun a s g N => L75_5 a.1 a.2 s.1 s.2 g N  K) (fun tm g R h => L75_5_ok R  K tm g h) tm g h

noncomputable def J75_2 (x0 x1 x5 : LV) (g : LHeap)  (K : LV → LHeap → Prop) : Prop :=
  vK (binL Try.prog .add 3 true x5 (.int .i64 (1))) fun t15 =>
  J75_4 x0 x1 x5 t15 g  K
abbrev kj75_2  (K : LV → LHeap → Prop) : LSt → Prop := fun st => J75_2 (st.tm 0) (st.tm 1) (st.tm 5) st.g  K
theorem J75_2_ok  (K : LV → LHeap → Prop) (tm : Nat → LV) (g : LHeap) (h : J75_2 (tm 0) (tm 1) (tm 5) g  K) : codeL Try.prog (Ok Try.prog) (nd75 [1, 1, 1]) ⟨tm, g⟩ (en75 K) := by
  refine seq_i (a := nd75 [1, 1, 1, 0]) (b := nd75 [1, 1, 1, 1]) (k' := kj75_3  K) (by kernel_rfl) (fun st h => J75_3_ok  K st.tm st.g h) ?_
  refine seq_i (a := nd75 [1, 1, 1, 0, 0]) (b := nd75 [1, 1, 1, 0, 1]) (k' := kj75_4  K) (by kernel_rfl) (fun st h => J75_4_ok  K st.tm st.g h) ?_
  try unfold J75_2 at h
  unfold kj75_4
  generalize @J75_4 = Q75_4 at h ⊢
  unfold kj75_3
  generalize @J75_3 = Q75_3 at h ⊢
  refine code2_sound ok_mono _ _ _ ?_
  refine kmp ?_ h
  generalize Ok Try.prog = C
  try unfold en75
  as_aux_lemma => kernel_rfl

noncomputable def J75_1 (x0 x1 x5 : LV) (g : LHeap)  (K : LV → LHeap → Prop) : Prop :=
  vK (binL Try.prog .eql 3 true x5 (.int .i64 (-1))) fun t12 =>
  ifB t12 (
  K x0 g) (
  J75_2 x0 x1 x5 g  K)
abbrev kj75_1  (K : LV → LHeap → Prop) : LSt → Prop := fun st => J75_1 (st.tm 0) (st.tm 1) (st.tm 5) st.g  K
theorem J75_1_ok  (K : LV → LHeap → Prop) (tm : Nat → LV) (g : LHeap) (h : J75_1 (tm 0) (tm 1) (tm 5) g  K) : codeL Try.prog (Ok Try.prog) (nd75 [1, 1]) ⟨tm, g⟩ (en75 K) := by
  refine seq_i (a := nd75 [1, 1, 0]) (b := nd75 [1, 1, 1]) (k' := kj75_2  K) (by kernel_rfl) (fun st h => J75_2_ok  K st.tm st.g h) ?_
  try unfold J75_1 at h
  unfold kj75_2
  generalize @J75_2 = Q75_2 at h ⊢
  refine code2_sound ok_mono _ _ _ ?_
  refine kmp ?_ h
  generalize Ok Try.prog = C
  try unfold en75
  as_aux_lemma => kernel_rfl

noncomputable def J75_0 (x0 x1 : LV) (g : LHeap)  (K : LV → LHeap → Prop) : Prop :=
  Ok Try.prog 93 [x0, x1] g fun t10 g =>
  J75_1 x0 x1 t10 g  K
abbrev kj75_0  (K : LV → LHeap → Prop) : LSt → Prop := fun st => J75_0 (st.tm 0) (st.tm 1) st.g  K
theorem J75_0_ok  (K : LV → LHeap → Prop) (tm : Nat → LV) (g : LHeap) (h : J75_0 (tm 0) (tm 1) g  K) : codeL Try.prog (Ok Try.prog) (nd75 [1]) ⟨tm, g⟩ (en75 K) := by
  refine seq_i (a := nd75 [1, 0]) (b := nd75 [1, 1]) (k' := kj75_1  K) (by kernel_rfl) (fun st h => J75_1_ok  K st.tm st.g h) ?_
  try unfold J75_0 at h
  unfold kj75_1
  generalize @J75_1 = Q75_1 at h ⊢
  refine code2_sound ok_mono _ _ _ ?_
  refine kmp ?_ h
  generalize Ok Try.prog = C
  try unfold en75
  as_aux_lemma => kernel_rfl

noncomputable def F75 (x0 x1 : LV) (g : LHeap) (K : LV → LHeap → Prop) : Prop :=
  J75_0 x0 x1 g  K
theorem ok75 {x0 x1 : LV} {g : LHeap} {K : LV → LHeap → Prop} (h : g.Wf → (∀ v ∈ ([x0, x1] : List LV), ∀ b ∈ v.objs, b < g.next) → F75 x0 x1 g K) : Ok Try.prog 75 [x0, x1] g K := by
  refine ok_fw Try.mixed Try.func75 (by kernel_rfl) (by kernel_rfl) (c := nd75 []) (by kernel_rfl) fun wf lt => ?_
  rw [← en75_eq]
  replace h := h wf lt
  generalize hs : startL _ = tm
  replace h : F75 (tm 0) (tm 1) g K := by rw [← hs]; exact h
  refine seq_i (a := nd75 [0]) (b := nd75 [1]) (k' := kj75_0  K) (by kernel_rfl) (fun st h => J75_0_ok  K st.tm st.g h) ?_
  try unfold F75 at h
  unfold kj75_0
  generalize @J75_0 = Q75_0 at h ⊢
  refine code2_sound ok_mono _ _ _ ?_
  refine kmp ?_ h
  generalize Ok Try.prog = C
  try unfold en75
  as_aux_lemma => kernel_rfl

/-! (*parapet/waitq.Queue).leave$1 (7 slots) -/
noncomputable def en76 (K : LV → LHeap → Prop) : LEx → LSt → Prop := fun e st => match e with
  | .exit _ => False
  | _ => K (st.tm 3) st.g
theorem en76_eq (K : LV → LHeap → Prop) : en76 K = endL Try.prog Try.f76 K := by
  funext e st
  cases e <;> kernel_rfl
noncomputable def nd76 (p : List Nat) : Code := subC p (bodyC Try.prog 76)
noncomputable def F76 (x0 x1 : LV) (g : LHeap) (K : LV → LHeap → Prop) : Prop :=
  vK (loadV none x1 g) fun t5 =>
  vK (binL Try.prog .eql 3 false x0 t5) fun t6 =>
  K t6 g
theorem ok76 {x0 x1 : LV} {g : LHeap} {K : LV → LHeap → Prop} (h : g.Wf → (∀ v ∈ ([x0, x1] : List LV), ∀ b ∈ v.objs, b < g.next) → F76 x0 x1 g K) : Ok Try.prog 76 [x0, x1] g K := by
  refine ok_fw Try.mixed Try.func76 (by kernel_rfl) (by kernel_rfl) (c := nd76 []) (by kernel_rfl) fun wf lt => ?_
  rw [← en76_eq]
  replace h := h wf lt
  generalize hs : startL _ = tm
  replace h : F76 (tm 0) (tm 1) g K := by rw [← hs]; exact h
  try unfold F76 at h
  refine code2_sound ok_mono _ _ _ ?_
  refine kmp ?_ h
  generalize Ok Try.prog = C
  try unfold en76
  as_aux_lemma => kernel_rfl

/-! slices.IndexFunc[[]int,int] (19 slots) -/
noncomputable def en93 (K : LV → LHeap → Prop) : LEx → LSt → Prop := fun e st => match e with
  | .exit _ => False
  | _ => K (st.tm 4) st.g
theorem en93_eq (K : LV → LHeap → Prop) : en93 K = endL Try.prog Try.f93 K := by
  funext e st
  cases e <;> kernel_rfl
noncomputable def nd93 (p : List Nat) : Code := subC p (bodyC Try.prog 93)
noncomputable def J93_1 (g : LHeap)  (K : LV → LHeap → Prop) : Prop :=
  K (.int .i64 (-1)) g
abbrev kj93_1  (K : LV → LHeap → Prop) : LSt → Prop := fun st => J93_1  st.g  K
theorem J93_1_ok  (K : LV → LHeap → Prop) (tm : Nat → LV) (g : LHeap) (h : J93_1  g  K) : codeL Try.prog (Ok Try.prog) (nd93 [1, 1]) ⟨tm, g⟩ (en93 K) := by
  try unfold J93_1 at h
  refine code2_sound ok_mono _ _ _ ?_
  refine kmp ?_ h
  generalize Ok Try.prog = C
  try unfold en93
  as_aux_lemma => kernel_rfl

noncomputable def L93_3 (x0 x1 x7 : LV) (x8 : LV) (g : LHeap) (N3 : LV → LHeap → Prop) (K : LV → LHeap → Prop) : Prop :=
  vK (binL Try.prog .lss 3 false x8 x7) fun t9 =>
  ifB t9 (
  vK (ixAddrL none 1 x0 x8) fun t14 =>
  vK (loadV none t14 g) fun t15 =>
  callV Try.prog (Ok Try.prog) x1 [t15] g fun t16 g =>
  ifB t16 (
  K x8 g) (
  vK (binL Try.prog .add 3 true x8 (.int .i64 (1))) fun t18 =>
  N3 t18 g)) (
  J93_1  g  K)
theorem L93_3_ok (R3 : LV × LV × LV → LV → LHeap → Prop) (K : LV → LHeap → Prop) (tm : Nat → LV) (g : LHeap) (h : L93_3 (tm 0) (tm 1) (tm 7) (tm 8) g (fun s g => R3 ((tm 0), (tm 1), (tm 7)) s g) K) : codeL Try.prog (Ok Try.prog) (nd93 [1, 0, 1, 0, 0]) ⟨tm, g⟩ (roundK (fun tm : Nat → LV => (tm 0, tm 1, tm 7)) (fun tm : Nat → LV => tm 8) R3 (exitL 0 (thenL (kj93_1  K) (en93 K)))) := by
  try unfold L93_3 at h
  unfold kj93_1
  generalize @J93_1 = Q93_1 at h ⊢
  refine code2_sound ok_mono _ _ _ ?_
  refine kmp ?_ h
  generalize Ok Try.prog = C
  try unfold en93
  as_aux_lemma => kernel_rfl

noncomputable def J93_2 (x0 x1 x7 x8 : LV) (g : LHeap)  (K : LV → LHeap → Prop) : Prop :=
  loopP (fun s g N => L93_3 x0 x1 x7 s g N  K) x8 g
abbrev kj93_2  (K : LV → LHeap → Prop) : LSt → Prop := fun st => J93_2 (st.tm 0) (st.tm 1) (st.tm 7) (st.tm 8) st.g  K
theorem J93_2_ok  (K : LV → LHeap → Prop) (tm : Nat → LV) (g : LHeap) (h : J93_2 (tm 0) (tm 1) (tm 7) (tm 8) g  K) : codeL Try.prog (Ok Try.prog) (nd93 [1, 0, 1]) ⟨tm, g⟩ (thenL (kj93_1  K) (en93 K)) := by
  refine block_i (b := nd93 [1, 0, 1, 0]) (i := 0) (by kernel_rfl) ?_
  exact loop_glue (b := nd93 [1, 0, 1, 0, 0]) (by kernel_rfl) (fun tm : Nat → LV => (tm 0, tm 1, tm 7)) (fun tm : Nat → LV => tm 8) (fun a s g N => L93_3 a.1 a.2.1 a.2.2 s g N  K) (fun tm g R h => L93_3_ok R  K tm g h) tm g h

noncomputable def J93_0 (x0 x1 : LV) (g : LHeap)  (K : LV → LHeap → Prop) : Prop :=
  oK (builtinL Try.prog .len [24] [x0] g) fun t7 g =>
  J93_2 x0 x1 t7 (.int .i64 (0)) g  K
abbrev kj93_0  (K : LV → LHeap → Prop) : LSt → Prop := fun st => J93_0 (st.tm 0) (st.tm 1) st.g  K
theorem J93_0_ok  (K : LV → LHeap → Prop) (tm : Nat → LV) (g : LHeap) (h : J93_0 (tm 0) (tm 1) g  K) : codeL Try.prog (Ok Try.prog) (nd93 [1]) ⟨tm, g⟩ (en93 K) := by
  refine seq_i (a := nd93 [1, 0]) (b := nd93 [1, 1]) (k' := kj93_1  K) (by kernel_rfl) (fun st h => J93_1_ok  K st.tm st.g h) ?_
  refine seq_i (a := nd93 [1, 0, 0]) (b := nd93 [1, 0, 1]) (k' := kj93_2  K) (by kernel_rfl) (fun st h => J93_2_ok  K st.tm st.g h) ?_
  try unfold J93_0 at h
  unfold kj93_2
  generalize @J93_2 = Q93_2 at h ⊢
  unfold kj93_1
  generalize @J93_1 = Q93_1 at h ⊢
  refine code2_sound ok_mono _ _ _ ?_
  refine kmp ?_ h
  generalize Ok Try.prog = C
  try unfold en93
  as_aux_lemma => kernel_rfl

noncomputable def F93 (x0 x1 : LV) (g : LHeap) (K : LV → LHeap → Prop) : Prop :=
  J93_0 x0 x1 g  K
theorem ok93 {x0 x1 : LV} {g : LHeap} {K : LV → LHeap → Prop} (h : g.Wf → (∀ v ∈ ([x0, x1] : List LV), ∀ b ∈ v.objs, b < g.next) → F93 x0 x1 g K) : Ok Try.prog 93 [x0, x1] g K := by
  refine ok_fw Try.mixed Try.func93 (by kernel_rfl) (by kernel_rfl) (c := nd93 []) (by kernel_rfl) fun wf lt => ?_
  rw [← en93_eq]
  replace h := h wf lt
  generalize hs : startL _ = tm
  replace h : F93 (tm 0) (tm 1) g K := by rw [← hs]; exact h
  refine seq_i (a := nd93 [0]) (b := nd93 [1]) (k' := kj93_0  K) (by kernel_rfl) (fun st h => J93_0_ok  K st.tm st.g h) ?_
  try unfold F93 at h
  unfold kj93_0
  generalize @J93_0 = Q93_0 at h ⊢
  refine code2_sound ok_mono _ _ _ ?_
  refine kmp ?_ h
  generalize Ok Try.prog = C
  try unfold en93
  as_aux_lemma => kernel_rfl

/-! parapet/parapetlaw12.WaitFair (77 slots) -/
noncomputable def en3 (K : LV → LHeap → Prop) : LEx → LSt → Prop := fun e st => match e with
  | .exit _ => False
  | _ => K (st.tm 6) st.g
theorem en3_eq (K : LV → LHeap → Prop) : en3 K = endL Try.prog Try.f3 K := by
  funext e st
  cases e <;> kernel_rfl
noncomputable def nd3 (p : List Nat) : Code := subC p (bodyC Try.prog 3)
noncomputable def J3_7 (x3 x7 x8 x11 : LV) (g : LHeap)  (K : LV → LHeap → Prop) : Prop :=
  vK (lenL Try.prog 24 x11 g) fun t55 =>
  vK (lenL Try.prog 24 x8 g) fun t57 =>
  vK (binL Try.prog .leq 3 false t55 t57) fun t58 =>
  gdV t58 true (some x11) fun t60 =>
  gdV t58 true (some x8) fun t61 =>
  gdV t58 true (some x11) fun t62 =>
  gdV t58 true (lenL Try.prog 24 t62 g) fun t63 =>
  gdV t58 true (cutT Try.prog 24 t61 none (some t63) none (limL t61 g)) fun t64 =>
  ((gd t58 true g (fun K => Ok Try.prog 16 [t60, t64] g K) fun t65 g =>
  
  vK (pickL t58 t65 (.bool false)) fun t66 =>
  gdV t66 true (some x7) fun t68 =>
  gdD t66 true (loadV (some 3) x3 g) (fun t69 =>
  gdV t66 true (some x8) fun t71 =>
  gdV t66 true (some x11) fun t72 =>
  gdV t66 true (lenL Try.prog 24 t72 g) fun t73 =>
  gdV t66 true (cutT Try.prog 24 t71 (some t73) none none (limL t71 g)) fun t74 =>
  ((gd t66 true g (fun K => Ok Try.prog 17 [t68, t69] g K) fun t70 g =>
  
  ((gd t66 true g (fun K => Ok Try.prog 16 [t70, t74] g K) fun t75 g =>
  
  vK (pickL t66 t75 (.bool false)) fun t76 =>
  K t76 g) ∧ True)) ∧ True)) (
  gdV t66 true (some x8) fun t71 =>
  gdV t66 true (some x11) fun t72 =>
  gdV t66 true (lenL Try.prog 24 t72 g) fun t73 =>
  gdV t66 true (cutT Try.prog 24 t71 (some t73) none none (limL t71 g)) fun t74 =>
  ((gd t66 true g (fun K => Ok Try.prog 17 [t68, undefL] g K) fun t70 g =>
  
  ((gd t66 true g (fun K => Ok Try.prog 16 [t70, t74] g K) fun t75 g =>
  
  vK (pickL t66 t75 (.bool false)) fun t76 =>
  K t76 g) ∧ True)) ∧ True))) ∧ True)
abbrev kj3_7  (K : LV → LHeap → Prop) : LSt → Prop := fun st => J3_7 (st.tm 3) (st.tm 7) (st.tm 8) (st.tm 11) st.g  K
theorem J3_7_ok  (K : LV → LHeap → Prop) (tm : Nat → LV) (g : LHeap) (h : J3_7 (tm 3) (tm 7) (tm 8) (tm 11) g  K) : codeL Try.prog (Ok Try.prog) (nd3 [1, 1, 1, 1, 1, 1, 1, 1]) ⟨tm, g⟩ (en3 K) := by
  try unfold J3_7 at h
  refine code3_sound ok_mono (pl := [(19, (.lt 0 false (.lt 1 false (.lt 2 false (.lt 3 false (.lt 4 false (.lt 5 false (.lt 6 false (.lt 7 false (.lt 8 false (.lt 9 false (.lt 10 false (.hv 11 (.lt 12 false (.lt 13 false (.lt 14 false (.lt 15 true (.lt 17 false (.lt 18 false (.lt 19 false (.lt 20 false (.hv 16 (.hv 21 (.lt 22 false (.lt 23 false .nil)) .nil) .nil))))))))) .nil)))))))))))))]) _ _ _ (by kernel_rfl) ?_
  refine kmp ?_ h
  generalize Ok Try.prog = C
  try unfold en3
  as_aux_lemma => kernel_rfl

noncomputable def L3_9 (x3 x7 x8 x41 x42 : LV) (x11 x43 : LV) (g : LHeap) (N9 : LV × LV → LHeap → Prop) (K : LV → LHeap → Prop) : Prop :=
  vK (binL Try.prog .lss 3 false x43 x42) fun t44 =>
  ifB t44 (
  vK (ixAddrL none 1 x41 x43) fun t45 =>
  vK (loadV none t45 g) fun t46 =>
  vK (loadV (some 3) x3 g) fun t49 =>
  Ok Try.prog 15 [x7, t49, t46] g fun t51 g =>
  oK (builtinL Try.prog .append [24, 24] [x11, t51] g) fun t52 g =>
  vK (binL Try.prog .add 3 true x43 (.int .i64 (1))) fun t53 =>
  N9 (t52, t53) g) (
  J3_7 x3 x7 x8 x11 g  K)
theorem L3_9_ok (R9 : LV × LV × LV × LV × LV → LV × LV → LHeap → Prop) (K : LV → LHeap → Prop) (tm : Nat → LV) (g : LHeap) (h : L3_9 (tm 3) (tm 7) (tm 8) (tm 41) (tm 42) (tm 11) (tm 43) g (fun s g => R9 ((tm 3), (tm 7), (tm 8), (tm 41), (tm 42)) s g) K) : codeL Try.prog (Ok Try.prog) (nd3 [1, 1, 1, 1, 1, 1, 1, 0, 1, 0, 0]) ⟨tm, g⟩ (roundK (fun tm : Nat → LV => (tm 3, tm 7, tm 8, tm 41, tm 42)) (fun tm : Nat → LV => (tm 11, tm 43)) R9 (exitL 2 (thenL (kj3_7  K) (en3 K)))) := by
  try unfold L3_9 at h
  unfold kj3_7
  generalize @J3_7 = Q3_7 at h ⊢
  refine code2_sound ok_mono _ _ _ ?_
  refine kmp ?_ h
  generalize Ok Try.prog = C
  try unfold en3
  as_aux_lemma => kernel_rfl

noncomputable def J3_8 (x3 x7 x8 x11 x41 x42 x43 : LV) (g : LHeap)  (K : LV → LHeap → Prop) : Prop :=
  loopP (fun s g N => L3_9 x3 x7 x8 x41 x42 s.1 s.2 g N  K) (x11, x43) g
abbrev kj3_8  (K : LV → LHeap → Prop) : LSt → Prop := fun st => J3_8 (st.tm 3) (st.tm 7) (st.tm 8) (st.tm 11) (st.tm 41) (st.tm 42) (st.tm 43) st.g  K
theorem J3_8_ok  (K : LV → LHeap → Prop) (tm : Nat → LV) (g : LHeap) (h : J3_8 (tm 3) (tm 7) (tm 8) (tm 11) (tm 41) (tm 42) (tm 43) g  K) : codeL Try.prog (Ok Try.prog) (nd3 [1, 1, 1, 1, 1, 1, 1, 0, 1]) ⟨tm, g⟩ (thenL (kj3_7  K) (en3 K)) := by
  refine block_i (b := nd3 [1, 1, 1, 1, 1, 1, 1, 0, 1, 0]) (i := 2) (by kernel_rfl) ?_
  exact loop_glue (b := nd3 [1, 1, 1, 1, 1, 1, 1, 0, 1, 0, 0]) (by kernel_rfl) (fun tm : Nat → LV => (tm 3, tm 7, tm 8, tm 41, tm 42)) (fun tm : Nat → LV => (tm 11, tm 43)) (fun a s g N => L3_9 a.1 a.2.1 a.2.2.1 a.2.2.2.1 a.2.2.2.2 s.1 s.2 g N  K) (fun tm g R h => L3_9_ok R  K tm g h) tm g h

noncomputable def J3_6 (x2 x3 x7 x8 x11 : LV) (g : LHeap)  (K : LV → LHeap → Prop) : Prop :=
  oK (builtinL Try.prog .len [24] [x2] g) fun t42 g =>
  J3_8 x3 x7 x8 x11 x2 t42 (.int .i64 (0)) g  K
abbrev kj3_6  (K : LV → LHeap → Prop) : LSt → Prop := fun st => J3_6 (st.tm 2) (st.tm 3) (st.tm 7) (st.tm 8) (st.tm 11) st.g  K
theorem J3_6_ok  (K : LV → LHeap → Prop) (tm : Nat → LV) (g : LHeap) (h : J3_6 (tm 2) (tm 3) (tm 7) (tm 8) (tm 11) g  K) : codeL Try.prog (Ok Try.prog) (nd3 [1, 1, 1, 1, 1, 1, 1]) ⟨tm, g⟩ (en3 K) := by
  refine seq_i (a := nd3 [1, 1, 1, 1, 1, 1, 1, 0]) (b := nd3 [1, 1, 1, 1, 1, 1, 1, 1]) (k' := kj3_7  K) (by kernel_rfl) (fun st h => J3_7_ok  K st.tm st.g h) ?_
  refine seq_i (a := nd3 [1, 1, 1, 1, 1, 1, 1, 0, 0]) (b := nd3 [1, 1, 1, 1, 1, 1, 1, 0, 1]) (k' := kj3_8  K) (by kernel_rfl) (fun st h => J3_8_ok  K st.tm st.g h) ?_
  try unfold J3_6 at h
  unfold kj3_8
  generalize @J3_8 = Q3_8 at h ⊢
  unfold kj3_7
  generalize @J3_7 = Q3_7 at h ⊢
  refine code2_sound ok_mono _ _ _ ?_
  refine kmp ?_ h
  generalize Ok Try.prog = C
  try unfold en3
  as_aux_lemma => kernel_rfl

noncomputable def J3_5 (x2 x3 x7 x8 : LV) (g : LHeap)  (K : LV → LHeap → Prop) : Prop :=
  J3_6 x2 x3 x7 x8 .nils g  K
abbrev kj3_5  (K : LV → LHeap → Prop) : LSt → Prop := fun st => J3_5 (st.tm 2) (st.tm 3) (st.tm 7) (st.tm 8) st.g  K
theorem J3_5_ok  (K : LV → LHeap → Prop) (tm : Nat → LV) (g : LHeap) (h : J3_5 (tm 2) (tm 3) (tm 7) (tm 8) g  K) : codeL Try.prog (Ok Try.prog) (nd3 [1, 1, 1, 1, 1, 1]) ⟨tm, g⟩ (en3 K) := by
  refine seq_i (a := nd3 [1, 1, 1, 1, 1, 1, 0]) (b := nd3 [1, 1, 1, 1, 1, 1, 1]) (k' := kj3_6  K) (by kernel_rfl) (fun st h => J3_6_ok  K st.tm st.g h) ?_
  try unfold J3_5 at h
  unfold kj3_6
  generalize @J3_6 = Q3_6 at h ⊢
  refine code2_sound ok_mono _ _ _ ?_
  refine kmp ?_ h
  generalize Ok Try.prog = C
  try unfold en3
  as_aux_lemma => kernel_rfl

noncomputable def J3_4 (x2 x3 x7 x8 : LV) (g : LHeap)  (K : LV → LHeap → Prop) : Prop :=
  oK (builtinL Try.prog .len [24] [x8] g) fun t39 g =>
  vK (binL Try.prog .gtr 3 true t39 (.int .i64 (64))) fun t40 =>
  ifB t40 (
  K (.bool false) g) (
  J3_5 x2 x3 x7 x8 g  K)
abbrev kj3_4  (K : LV → LHeap → Prop) : LSt → Prop := fun st => J3_4 (st.tm 2) (st.tm 3) (st.tm 7) (st.tm 8) st.g  K
theorem J3_4_ok  (K : LV → LHeap → Prop) (tm : Nat → LV) (g : LHeap) (h : J3_4 (tm 2) (tm 3) (tm 7) (tm 8) g  K) : codeL Try.prog (Ok Try.prog) (nd3 [1, 1, 1, 1, 1]) ⟨tm, g⟩ (en3 K) := by
  refine seq_i (a := nd3 [1, 1, 1, 1, 1, 0]) (b := nd3 [1, 1, 1, 1, 1, 1]) (k' := kj3_5  K) (by kernel_rfl) (fun st h => J3_5_ok  K st.tm st.g h) ?_
  try unfold J3_4 at h
  unfold kj3_5
  generalize @J3_5 = Q3_5 at h ⊢
  refine code2_sound ok_mono _ _ _ ?_
  refine kmp ?_ h
  generalize Ok Try.prog = C
  try unfold en3
  as_aux_lemma => kernel_rfl

noncomputable def L3_11 (x2 x3 x7 x21 x22 : LV) (x8 x23 : LV) (g : LHeap) (N11 : LV × LV → LHeap → Prop) (K : LV → LHeap → Prop) : Prop :=
  vK (binL Try.prog .lss 3 false x23 x22) fun t24 =>
  ifB t24 (
  vK (ixAddrL none 1 x21 x23) fun t25 =>
  vK (loadV none t25 g) fun t26 =>
  vK (loadV (some 3) x3 g) fun t29 =>
  oK (buildSliceL Try.prog 30 1 [(0, t29)] g) fun t30 g =>
  Ok Try.prog 14 [x7, t26, t30] g fun t31 g =>
  vK (binL Try.prog .eql 28 true t31 (.int .i64 (0))) fun t32 =>
  ifB t32 (
  oK (buildSliceL Try.prog 24 1 [(0, t26)] g) fun t35 g =>
  oK (builtinL Try.prog .append [24, 24] [x8, t35] g) fun t36 g =>
  vK (binL Try.prog .add 3 true x23 (.int .i64 (1))) fun t37 =>
  N11 (t36, t37) g) (
  vK (binL Try.prog .add 3 true x23 (.int .i64 (1))) fun t37 =>
  N11 (x8, t37) g)) (
  J3_4 x2 x3 x7 x8 g  K)
theorem L3_11_ok (R11 : LV × LV × LV × LV × LV → LV × LV → LHeap → Prop) (K : LV → LHeap → Prop) (tm : Nat → LV) (g : LHeap) (h : L3_11 (tm 2) (tm 3) (tm 7) (tm 21) (tm 22) (tm 8) (tm 23) g (fun s g => R11 ((tm 2), (tm 3), (tm 7), (tm 21), (tm 22)) s g) K) : codeL Try.prog (Ok Try.prog) (nd3 [1, 1, 1, 1, 0, 1, 0, 0]) ⟨tm, g⟩ (roundK (fun tm : Nat → LV => (tm 2, tm 3, tm 7, tm 21, tm 22)) (fun tm : Nat → LV => (tm 8, tm 23)) R11 (exitL 0 (thenL (kj3_4  K) (en3 K)))) := by
  try unfold L3_11 at h
  unfold kj3_4
  generalize @J3_4 = Q3_4 at h ⊢
  refine code2_sound ok_mono _ _ _ ?_
  refine kmp ?_ h
  generalize Ok Try.prog = C
  try unfold en3
  as_aux_lemma => kernel_rfl

noncomputable def J3_10 (x2 x3 x7 x8 x21 x22 x23 : LV) (g : LHeap)  (K : LV → LHeap → Prop) : Prop :=
  loopP (fun s g N => L3_11 x2 x3 x7 x21 x22 s.1 s.2 g N  K) (x8, x23) g
abbrev kj3_10  (K : LV → LHeap → Prop) : LSt → Prop := fun st => J3_10 (st.tm 2) (st.tm 3) (st.tm 7) (st.tm 8) (st.tm 21) (st.tm 22) (st.tm 23) st.g  K
theorem J3_10_ok  (K : LV → LHeap → Prop) (tm : Nat → LV) (g : LHeap) (h : J3_10 (tm 2) (tm 3) (tm 7) (tm 8) (tm 21) (tm 22) (tm 23) g  K) : codeL Try.prog (Ok Try.prog) (nd3 [1, 1, 1, 1, 0, 1]) ⟨tm, g⟩ (thenL (kj3_4  K) (en3 K)) := by
  refine block_i (b := nd3 [1, 1, 1, 1, 0, 1, 0]) (i := 0) (by kernel_rfl) ?_
  exact loop_glue (b := nd3 [1, 1, 1, 1, 0, 1, 0, 0]) (by kernel_rfl) (fun tm : Nat → LV => (tm 2, tm 3, tm 7, tm 21, tm 22)) (fun tm : Nat → LV => (tm 8, tm 23)) (fun a s g N => L3_11 a.1 a.2.1 a.2.2.1 a.2.2.2.1 a.2.2.2.2 s.1 s.2 g N  K) (fun tm g R h => L3_11_ok R  K tm g h) tm g h

noncomputable def J3_3 (x1 x2 x3 x7 x8 : LV) (g : LHeap)  (K : LV → LHeap → Prop) : Prop :=
  oK (builtinL Try.prog .len [24] [x1] g) fun t22 g =>
  J3_10 x2 x3 x7 x8 x1 t22 (.int .i64 (0)) g  K
abbrev kj3_3  (K : LV → LHeap → Prop) : LSt → Prop := fun st => J3_3 (st.tm 1) (st.tm 2) (st.tm 3) (st.tm 7) (st.tm 8) st.g  K
theorem J3_3_ok  (K : LV → LHeap → Prop) (tm : Nat → LV) (g : LHeap) (h : J3_3 (tm 1) (tm 2) (tm 3) (tm 7) (tm 8) g  K) : codeL Try.prog (Ok Try.prog) (nd3 [1, 1, 1, 1]) ⟨tm, g⟩ (en3 K) := by
  refine seq_i (a := nd3 [1, 1, 1, 1, 0]) (b := nd3 [1, 1, 1, 1, 1]) (k' := kj3_4  K) (by kernel_rfl) (fun st h => J3_4_ok  K st.tm st.g h) ?_
  refine seq_i (a := nd3 [1, 1, 1, 1, 0, 0]) (b := nd3 [1, 1, 1, 1, 0, 1]) (k' := kj3_10  K) (by kernel_rfl) (fun st h => J3_10_ok  K st.tm st.g h) ?_
  try unfold J3_3 at h
  unfold kj3_10
  generalize @J3_10 = Q3_10 at h ⊢
  unfold kj3_4
  generalize @J3_4 = Q3_4 at h ⊢
  refine code2_sound ok_mono _ _ _ ?_
  refine kmp ?_ h
  generalize Ok Try.prog = C
  try unfold en3
  as_aux_lemma => kernel_rfl

noncomputable def J3_2 (x1 x2 x3 x7 : LV) (g : LHeap)  (K : LV → LHeap → Prop) : Prop :=
  J3_3 x1 x2 x3 x7 .nils g  K
abbrev kj3_2  (K : LV → LHeap → Prop) : LSt → Prop := fun st => J3_2 (st.tm 1) (st.tm 2) (st.tm 3) (st.tm 7) st.g  K
theorem J3_2_ok  (K : LV → LHeap → Prop) (tm : Nat → LV) (g : LHeap) (h : J3_2 (tm 1) (tm 2) (tm 3) (tm 7) g  K) : codeL Try.prog (Ok Try.prog) (nd3 [1, 1, 1]) ⟨tm, g⟩ (en3 K) := by
  refine seq_i (a := nd3 [1, 1, 1, 0]) (b := nd3 [1, 1, 1, 1]) (k' := kj3_3  K) (by kernel_rfl) (fun st h => J3_3_ok  K st.tm st.g h) ?_
  try unfold J3_2 at h
  unfold kj3_3
  generalize @J3_3 = Q3_3 at h ⊢
  refine code2_sound ok_mono _ _ _ ?_
  refine kmp ?_ h
  generalize Ok Try.prog = C
  try unfold en3
  as_aux_lemma => kernel_rfl

noncomputable def J3_1 (x1 x2 x3 x7 : LV) (g : LHeap)  (K : LV → LHeap → Prop) : Prop :=
  Ok Try.prog 13 [] g fun t15 g =>
  vK (unL .not t15) fun t16 =>
  gd t16 false g (fun K => K x7 g) fun t18 g =>
  gd t16 false g (fun K => vK (binL Try.prog .eql 25 true t18 .nilp) fun v => K v g) fun t19 g =>
  vK (pickL t16 (.bool true) t19) fun t20 =>
  ifB t20 (
  K (.bool false) g) (
  J3_2 x1 x2 x3 x7 g  K)
abbrev kj3_1  (K : LV → LHeap → Prop) : LSt → Prop := fun st => J3_1 (st.tm 1) (st.tm 2) (st.tm 3) (st.tm 7) st.g  K
theorem J3_1_ok  (K : LV → LHeap → Prop) (tm : Nat → LV) (g : LHeap) (h : J3_1 (tm 1) (tm 2) (tm 3) (tm 7) g  K) : codeL Try.prog (Ok Try.prog) (nd3 [1, 1]) ⟨tm, g⟩ (en3 K) := by
  refine seq_i (a := nd3 [1, 1, 0]) (b := nd3 [1, 1, 1]) (k' := kj3_2  K) (by kernel_rfl) (fun st h => J3_2_ok  K st.tm st.g h) ?_
  try unfold J3_1 at h
  unfold kj3_2
  generalize @J3_2 = Q3_2 at h ⊢
  refine code2_sound ok_mono _ _ _ ?_
  refine kmp ?_ h
  generalize Ok Try.prog = C
  try unfold en3
  as_aux_lemma => kernel_rfl

noncomputable def J3_0 (x1 x2 x3 : LV) (g : LHeap)  (K : LV → LHeap → Prop) : Prop :=
  Ok Try.prog 12 [] g fun t14 g =>
  J3_1 x1 x2 x3 t14 g  K
abbrev kj3_0  (K : LV → LHeap → Prop) : LSt → Prop := fun st => J3_0 (st.tm 1) (st.tm 2) (st.tm 3) st.g  K
theorem J3_0_ok  (K : LV → LHeap → Prop) (tm : Nat → LV) (g : LHeap) (h : J3_0 (tm 1) (tm 2) (tm 3) g  K) : codeL Try.prog (Ok Try.prog) (nd3 [1]) ⟨tm, g⟩ (en3 K) := by
  refine seq_i (a := nd3 [1, 0]) (b := nd3 [1, 1]) (k' := kj3_1  K) (by kernel_rfl) (fun st h => J3_1_ok  K st.tm st.g h) ?_
  try unfold J3_0 at h
  unfold kj3_1
  generalize @J3_1 = Q3_1 at h ⊢
  refine code2_sound ok_mono _ _ _ ?_
  refine kmp ?_ h
  generalize Ok Try.prog = C
  try unfold en3
  as_aux_lemma => kernel_rfl

noncomputable def F3 (x0 x1 x2 : LV) (g : LHeap) (K : LV → LHeap → Prop) : Prop :=
  oK (newL x0 g) fun t3 g =>
  J3_0 x1 x2 t3 g  K
theorem ok3 {x0 x1 x2 : LV} {g : LHeap} {K : LV → LHeap → Prop} (h : g.Wf → (∀ v ∈ ([x0, x1, x2] : List LV), ∀ b ∈ v.objs, b < g.next) → F3 x0 x1 x2 g K) : Ok Try.prog 3 [x0, x1, x2] g K := by
  refine ok_fw Try.mixed Try.func3 (by kernel_rfl) (by kernel_rfl) (c := nd3 []) (by kernel_rfl) fun wf lt => ?_
  rw [← en3_eq]
  replace h := h wf lt
  generalize hs : startL _ = tm
  replace h : F3 (tm 0) (tm 1) (tm 2) g K := by rw [← hs]; exact h
  refine seq_i (a := nd3 [0]) (b := nd3 [1]) (k' := kj3_0  K) (by kernel_rfl) (fun st h => J3_0_ok  K st.tm st.g h) ?_
  try unfold F3 at h
  unfold kj3_0
  generalize @J3_0 = Q3_0 at h ⊢
  refine code2_sound ok_mono _ _ _ ?_
  refine kmp ?_ h
  generalize Ok Try.prog = C
  try unfold en3
  as_aux_lemma => kernel_rfl

/-! parapet/parapetlaw12.WaitOnce (127 slots) -/
noncomputable def en5 (K : LV → LHeap → Prop) : LEx → LSt → Prop := fun e st => match e with
  | .exit _ => False
  | _ => K (st.tm 2) st.g
theorem en5_eq (K : LV → LHeap → Prop) : en5 K = endL Try.prog Try.f5 K := by
  funext e st
  cases e <;> kernel_rfl
noncomputable def nd5 (p : List Nat) : Code := subC p (bodyC Try.prog 5)
noncomputable def J5_5 (x3 x4 : LV) (g : LHeap)  (K : LV → LHeap → Prop) : Prop :=
  Ok Try.prog 29 [x3] g fun t122 g =>
  oK (builtinL Try.prog .len [24] [t122] g) fun t123 g =>
  oK (builtinL Try.prog .len [54] [x4] g) fun t125 g =>
  vK (binL Try.prog .eql 3 false t123 t125) fun t126 =>
  K t126 g
abbrev kj5_5  (K : LV → LHeap → Prop) : LSt → Prop := fun st => J5_5 (st.tm 3) (st.tm 4) st.g  K
theorem J5_5_ok  (K : LV → LHeap → Prop) (tm : Nat → LV) (g : LHeap) (h : J5_5 (tm 3) (tm 4) g  K) : codeL Try.prog (Ok Try.prog) (nd5 [1, 1, 1, 1, 1, 1]) ⟨tm, g⟩ (en5 K) := by
  try unfold J5_5 at h
  refine code2_sound ok_mono _ _ _ ?_
  refine kmp ?_ h
  generalize Ok Try.prog = C
  try unfold en5
  as_aux_lemma => kernel_rfl

noncomputable def L5_7 (x3 x4 x110 x111 : LV) (x112 : LV) (g : LHeap) (N7 : LV → LHeap → Prop) (K : LV → LHeap → Prop) : Prop :=
  vK (binL Try.prog .lss 3 false x112 x111) fun t113 =>
  ifB t113 (
  vK (ixAddrL none 1 x110 x112) fun t114 =>
  vK (loadV none t114 g) fun t115 =>
  vK (lookupL Try.prog 54 x4 t115 false g) fun t118 =>
  vK (unL .not t118) fun t119 =>
  ifB t119 (
  K (.bool false) g) (
  vK (binL Try.prog .add 3 true x112 (.int .i64 (1))) fun t120 =>
  N7 t120 g)) (
  J5_5 x3 x4 g  K)
theorem L5_7_ok (R7 : LV × LV × LV × LV → LV → LHeap → Prop) (K : LV → LHeap → Prop) (tm : Nat → LV) (g : LHeap) (h : L5_7 (tm 3) (tm 4) (tm 110) (tm 111) (tm 112) g (fun s g => R7 ((tm 3), (tm 4), (tm 110), (tm 111)) s g) K) : codeL Try.prog (Ok Try.prog) (nd5 [1, 1, 1, 1, 1, 0, 1, 0, 0]) ⟨tm, g⟩ (roundK (fun tm : Nat → LV => (tm 3, tm 4, tm 110, tm 111)) (fun tm : Nat → LV => tm 112) R7 (exitL 5 (thenL (kj5_5  K) (en5 K)))) := by
  try unfold L5_7 at h
  unfold kj5_5
  generalize @J5_5 = Q5_5 at h ⊢
  refine code2_sound ok_mono _ _ _ ?_
  refine kmp ?_ h
  generalize Ok Try.prog = C
  try unfold en5
  as_aux_lemma => kernel_rfl

noncomputable def J5_6 (x3 x4 x110 x111 x112 : LV) (g : LHeap)  (K : LV → LHeap → Prop) : Prop :=
  loopP (fun s g N => L5_7 x3 x4 x110 x111 s g N  K) x112 g
abbrev kj5_6  (K : LV → LHeap → Prop) : LSt → Prop := fun st => J5_6 (st.tm 3) (st.tm 4) (st.tm 110) (st.tm 111) (st.tm 112) st.g  K
theorem J5_6_ok  (K : LV → LHeap → Prop) (tm : Nat → LV) (g : LHeap) (h : J5_6 (tm 3) (tm 4) (tm 110) (tm 111) (tm 112) g  K) : codeL Try.prog (Ok Try.prog) (nd5 [1, 1, 1, 1, 1, 0, 1]) ⟨tm, g⟩ (thenL (kj5_5  K) (en5 K)) := by
  refine block_i (b := nd5 [1, 1, 1, 1, 1, 0, 1, 0]) (i := 5) (by kernel_rfl) ?_
  exact loop_glue (b := nd5 [1, 1, 1, 1, 1, 0, 1, 0, 0]) (by kernel_rfl) (fun tm : Nat → LV => (tm 3, tm 4, tm 110, tm 111)) (fun tm : Nat → LV => tm 112) (fun a s g N => L5_7 a.1 a.2.1 a.2.2.1 a.2.2.2 s g N  K) (fun tm g R h => L5_7_ok R  K tm g h) tm g h

noncomputable def J5_4 (x3 x4 : LV) (g : LHeap)  (K : LV → LHeap → Prop) : Prop :=
  Ok Try.prog 29 [x3] g fun t110 g =>
  oK (builtinL Try.prog .len [24] [t110] g) fun t111 g =>
  J5_6 x3 x4 t110 t111 (.int .i64 (0)) g  K
abbrev kj5_4  (K : LV → LHeap → Prop) : LSt → Prop := fun st => J5_4 (st.tm 3) (st.tm 4) st.g  K
theorem J5_4_ok  (K : LV → LHeap → Prop) (tm : Nat → LV) (g : LHeap) (h : J5_4 (tm 3) (tm 4) g  K) : codeL Try.prog (Ok Try.prog) (nd5 [1, 1, 1, 1, 1]) ⟨tm, g⟩ (en5 K) := by
  refine seq_i (a := nd5 [1, 1, 1, 1, 1, 0]) (b := nd5 [1, 1, 1, 1, 1, 1]) (k' := kj5_5  K) (by kernel_rfl) (fun st h => J5_5_ok  K st.tm st.g h) ?_
  refine seq_i (a := nd5 [1, 1, 1, 1, 1, 0, 0]) (b := nd5 [1, 1, 1, 1, 1, 0, 1]) (k' := kj5_6  K) (by kernel_rfl) (fun st h => J5_6_ok  K st.tm st.g h) ?_
  try unfold J5_4 at h
  unfold kj5_6
  generalize @J5_6 = Q5_6 at h ⊢
  unfold kj5_5
  generalize @J5_5 = Q5_5 at h ⊢
  refine code2_sound ok_mono _ _ _ ?_
  refine kmp ?_ h
  generalize Ok Try.prog = C
  try unfold en5
  as_aux_lemma => kernel_rfl

noncomputable def J5_12 (x3 x4 x21 x22 x23 : LV) (g : LHeap) (N9 : LV → LHeap → Prop) (K : LV → LHeap → Prop) : Prop :=
  vK (binL Try.prog .add 3 true x23 (.int .i64 (1))) fun t108 =>
  N9 t108 g
abbrev kj5_12 (R9 : LV × LV × LV × LV → LV → LHeap → Prop) (K : LV → LHeap → Prop) : LSt → Prop := fun st => J5_12 (st.tm 3) (st.tm 4) (st.tm 21) (st.tm 22) (st.tm 23) st.g (fun s g => R9 ((st.tm 3), (st.tm 4), (st.tm 21), (st.tm 22)) s g) K
theorem J5_12_ok (R9 : LV × LV × LV × LV → LV → LHeap → Prop) (K : LV → LHeap → Prop) (tm : Nat → LV) (g : LHeap) (h : J5_12 (tm 3) (tm 4) (tm 21) (tm 22) (tm 23) g (fun s g => R9 ((tm 3), (tm 4), (tm 21), (tm 22)) s g) K) : codeL Try.prog (Ok Try.prog) (nd5 [1, 1, 1, 1, 0, 1, 0, 0, 1, 1, 1]) ⟨tm, g⟩ (roundK (fun tm : Nat → LV => (tm 3, tm 4, tm 21, tm 22)) (fun tm : Nat → LV => tm 23) R9 (exitL 0 (thenL (kj5_4  K) (en5 K)))) := by
  try unfold J5_12 at h
  unfold kj5_4
  generalize @J5_4 = Q5_4 at h ⊢
  refine code2_sound ok_mono _ _ _ ?_
  refine kmp ?_ h
  generalize Ok Try.prog = C
  try unfold en5
  as_aux_lemma => kernel_rfl

noncomputable def J5_14 (x3 x4 x21 x22 x23 : LV) (g : LHeap) (N9 : LV → LHeap → Prop) (K : LV → LHeap → Prop) : Prop :=
  Ok Try.prog 28 [x3] g fun t104 g =>
  oK (builtinL Try.prog .len [54] [x4] g) fun t106 g =>
  vK (binL Try.prog .neq 3 false t104 t106) fun t107 =>
  ifB t107 (
  K (.bool false) g) (
  J5_12 x3 x4 x21 x22 x23 g N9 K)
abbrev kj5_14 (R9 : LV × LV × LV × LV → LV → LHeap → Prop) (K : LV → LHeap → Prop) : LSt → Prop := fun st => J5_14 (st.tm 3) (st.tm 4) (st.tm 21) (st.tm 22) (st.tm 23) st.g (fun s g => R9 ((st.tm 3), (st.tm 4), (st.tm 21), (st.tm 22)) s g) K
theorem J5_14_ok (R9 : LV × LV × LV × LV → LV → LHeap → Prop) (K : LV → LHeap → Prop) (tm : Nat → LV) (g : LHeap) (h : J5_14 (tm 3) (tm 4) (tm 21) (tm 22) (tm 23) g (fun s g => R9 ((tm 3), (tm 4), (tm 21), (tm 22)) s g) K) : codeL Try.prog (Ok Try.prog) (nd5 [1, 1, 1, 1, 0, 1, 0, 0, 1, 1, 0, 0, 1, 1]) ⟨tm, g⟩ (exitL 1 (thenL (kj5_12 R9 K) (roundK (fun tm : Nat → LV => (tm 3, tm 4, tm 21, tm 22)) (fun tm : Nat → LV => tm 23) R9 (exitL 0 (thenL (kj5_4  K) (en5 K)))))) := by
  try unfold J5_14 at h
  unfold kj5_12
  generalize @J5_12 = Q5_12 at h ⊢
  unfold kj5_4
  generalize @J5_4 = Q5_4 at h ⊢
  refine code2_sound ok_mono _ _ _ ?_
  refine kmp ?_ h
  generalize Ok Try.prog = C
  try unfold en5
  as_aux_lemma => kernel_rfl

noncomputable def L5_22 (x3 x4 x21 x22 x23 x66 x67 : LV) (x68 : LV) (g : LHeap) (N22 : LV → LHeap → Prop) (N9 : LV → LHeap → Prop) (K : LV → LHeap → Prop) : Prop :=
  vK (binL Try.prog .lss 3 false x68 x67) fun t69 =>
  ifB t69 (
  vK (ixAddrL none 1 x66 x68) fun t70 =>
  vK (loadV none t70 g) fun t71 =>
  vK (lookupL Try.prog 54 x4 t71 false g) fun t74 =>
  vK (unL .not t74) fun t75 =>
  ifB t75 (
  K (.bool false) g) (
  oK (builtinL Try.prog .delete [54, 3] [x4, t71] g) fun u g =>
  vK (binL Try.prog .add 3 true x68 (.int .i64 (1))) fun t78 =>
  N22 t78 g)) (
  J5_14 x3 x4 x21 x22 x23 g N9 K)
theorem L5_22_ok (R22 : LV × LV × LV × LV × LV × LV × LV → LV → LHeap → Prop) (R9 : LV × LV × LV × LV → LV → LHeap → Prop) (K : LV → LHeap → Prop) (tm : Nat → LV) (g : LHeap) (h : L5_22 (tm 3) (tm 4) (tm 21) (tm 22) (tm 23) (tm 66) (tm 67) (tm 68) g (fun s g => R22 ((tm 3), (tm 4), (tm 21), (tm 22), (tm 23), (tm 66), (tm 67)) s g) (fun s g => R9 ((tm 3), (tm 4), (tm 21), (tm 22)) s g) K) : codeL Try.prog (Ok Try.prog) (nd5 [1, 1, 1, 1, 0, 1, 0, 0, 1, 1, 0, 0, 1, 0, 1, 0, 1, 1, 1, 0, 1, 1, 1, 1, 0, 0]) ⟨tm, g⟩ (roundK (fun tm : Nat → LV => (tm 3, tm 4, tm 21, tm 22, tm 23, tm 66, tm 67)) (fun tm : Nat → LV => tm 68) R22 (exitL 3 (exitL 2 (thenL (kj5_14 R9 K) (exitL 1 (thenL (kj5_12 R9 K) (roundK (fun tm : Nat → LV => (tm 3, tm 4, tm 21, tm 22)) (fun tm : Nat → LV => tm 23) R9 (exitL 0 (thenL (kj5_4  K) (en5 K)))))))))) := by
  try unfold L5_22 at h
  unfold kj5_14
  generalize @J5_14 = Q5_14 at h ⊢
  unfold kj5_12
  generalize @J5_12 = Q5_12 at h ⊢
  unfold kj5_4
  generalize @J5_4 = Q5_4 at h ⊢
  refine code2_sound ok_mono _ _ _ ?_
  refine kmp ?_ h
  generalize Ok Try.prog = C
  try unfold en5
  as_aux_lemma => kernel_rfl

noncomputable def J5_21 (x3 x4 x21 x22 x23 x66 x67 x68 : LV) (g : LHeap) (N9 : LV → LHeap → Prop) (K : LV → LHeap → Prop) : Prop :=
  loopP (fun s g N => L5_22 x3 x4 x21 x22 x23 x66 x67 s g N N9 K) x68 g
abbrev kj5_21 (R9 : LV × LV × LV × LV → LV → LHeap → Prop) (K : LV → LHeap → Prop) : LSt → Prop := fun st => J5_21 (st.tm 3) (st.tm 4) (st.tm 21) (st.tm 22) (st.tm 23) (st.tm 66) (st.tm 67) (st.tm 68) st.g (fun s g => R9 ((st.tm 3), (st.tm 4), (st.tm 21), (st.tm 22)) s g) K
theorem J5_21_ok (R9 : LV × LV × LV × LV → LV → LHeap → Prop) (K : LV → LHeap → Prop) (tm : Nat → LV) (g : LHeap) (h : J5_21 (tm 3) (tm 4) (tm 21) (tm 22) (tm 23) (tm 66) (tm 67) (tm 68) g (fun s g => R9 ((tm 3), (tm 4), (tm 21), (tm 22)) s g) K) : codeL Try.prog (Ok Try.prog) (nd5 [1, 1, 1, 1, 0, 1, 0, 0, 1, 1, 0, 0, 1, 0, 1, 0, 1, 1, 1, 0, 1, 1, 1, 1]) ⟨tm, g⟩ (exitL 2 (thenL (kj5_14 R9 K) (exitL 1 (thenL (kj5_12 R9 K) (roundK (fun tm : Nat → LV => (tm 3, tm 4, tm 21, tm 22)) (fun tm : Nat → LV => tm 23) R9 (exitL 0 (thenL (kj5_4  K) (en5 K)))))))) := by
  refine block_i (b := nd5 [1, 1, 1, 1, 0, 1, 0, 0, 1, 1, 0, 0, 1, 0, 1, 0, 1, 1, 1, 0, 1, 1, 1, 1, 0]) (i := 3) (by kernel_rfl) ?_
  exact loop_glue (b := nd5 [1, 1, 1, 1, 0, 1, 0, 0, 1, 1, 0, 0, 1, 0, 1, 0, 1, 1, 1, 0, 1, 1, 1, 1, 0, 0]) (by kernel_rfl) (fun tm : Nat → LV => (tm 3, tm 4, tm 21, tm 22, tm 23, tm 66, tm 67)) (fun tm : Nat → LV => tm 68) (fun a s g N => L5_22 a.1 a.2.1 a.2.2.1 a.2.2.2.1 a.2.2.2.2.1 a.2.2.2.2.2.1 a.2.2.2.2.2.2 s g N (fun s g => R9 ((a.1), (a.2.1), (a.2.2.1), (a.2.2.2.1)) s g) K) (fun tm g R h => L5_22_ok R R9 K tm g h) tm g h

noncomputable def J5_20 (x3 x4 x8 x21 x22 x23 : LV) (g : LHeap) (N9 : LV → LHeap → Prop) (K : LV → LHeap → Prop) : Prop :=
  oK (builtinL Try.prog .len [24] [x8] g) fun t67 g =>
  J5_21 x3 x4 x21 x22 x23 x8 t67 (.int .i64 (0)) g N9 K
abbrev kj5_20 (R9 : LV × LV × LV × LV → LV → LHeap → Prop) (K : LV → LHeap → Prop) : LSt → Prop := fun st => J5_20 (st.tm 3) (st.tm 4) (st.tm 8) (st.tm 21) (st.tm 22) (st.tm 23) st.g (fun s g => R9 ((st.tm 3), (st.tm 4), (st.tm 21), (st.tm 22)) s g) K
theorem J5_20_ok (R9 : LV × LV × LV × LV → LV → LHeap → Prop) (K : LV → LHeap → Prop) (tm : Nat → LV) (g : LHeap) (h : J5_20 (tm 3) (tm 4) (tm 8) (tm 21) (tm 22) (tm 23) g (fun s g => R9 ((tm 3), (tm 4), (tm 21), (tm 22)) s g) K) : codeL Try.prog (Ok Try.prog) (nd5 [1, 1, 1, 1, 0, 1, 0, 0, 1, 1, 0, 0, 1, 0, 1, 0, 1, 1, 1, 0, 1, 1, 1]) ⟨tm, g⟩ (exitL 2 (thenL (kj5_14 R9 K) (exitL 1 (thenL (kj5_12 R9 K) (roundK (fun tm : Nat → LV => (tm 3, tm 4, tm 21, tm 22)) (fun tm : Nat → LV => tm 23) R9 (exitL 0 (thenL (kj5_4  K) (en5 K)))))))) := by
  refine seq_i (a := nd5 [1, 1, 1, 1, 0, 1, 0, 0, 1, 1, 0, 0, 1, 0, 1, 0, 1, 1, 1, 0, 1, 1, 1, 0]) (b := nd5 [1, 1, 1, 1, 0, 1, 0, 0, 1, 1, 0, 0, 1, 0, 1, 0, 1, 1, 1, 0, 1, 1, 1, 1]) (k' := kj5_21 R9 K) (by kernel_rfl) (fun st h => J5_21_ok R9 K st.tm st.g h) ?_
  try unfold J5_20 at h
  unfold kj5_21
  generalize @J5_21 = Q5_21 at h ⊢
  unfold kj5_14
  generalize @J5_14 = Q5_14 at h ⊢
  unfold kj5_12
  generalize @J5_12 = Q5_12 at h ⊢
  unfold kj5_4
  generalize @J5_4 = Q5_4 at h ⊢
  refine code2_sound ok_mono _ _ _ ?_
  refine kmp ?_ h
  generalize Ok Try.prog = C
  try unfold en5
  as_aux_lemma => kernel_rfl

noncomputable def J5_19 (x3 x4 x6 x7 x8 x21 x22 x23 : LV) (g : LHeap) (N9 : LV → LHeap → Prop) (K : LV → LHeap → Prop) : Prop :=
  oK (builtinL Try.prog .len [24] [x8] g) fun t59 g =>
  vK (fieldAddrL 9 x6) fun t61 =>
  vK (loadV none t61 g) fun t62 =>
  oK (builtinL Try.prog .min [3, 3] [x7, t62] g) fun t63 g =>
  oK (builtinL Try.prog .max [3, 3] [(.int .i64 (0)), t63] g) fun t64 g =>
  vK (binL Try.prog .neq 3 false t59 t64) fun t65 =>
  ifB t65 (
  K (.bool false) g) (
  J5_20 x3 x4 x8 x21 x22 x23 g N9 K)
abbrev kj5_19 (R9 : LV × LV × LV × LV → LV → LHeap → Prop) (K : LV → LHeap → Prop) : LSt → Prop := fun st => J5_19 (st.tm 3) (st.tm 4) (st.tm 6) (st.tm 7) (st.tm 8) (st.tm 21) (st.tm 22) (st.tm 23) st.g (fun s g => R9 ((st.tm 3), (st.tm 4), (st.tm 21), (st.tm 22)) s g) K
theorem J5_19_ok (R9 : LV × LV × LV × LV → LV → LHeap → Prop) (K : LV → LHeap → Prop) (tm : Nat → LV) (g : LHeap) (h : J5_19 (tm 3) (tm 4) (tm 6) (tm 7) (tm 8) (tm 21) (tm 22) (tm 23) g (fun s g => R9 ((tm 3), (tm 4), (tm 21), (tm 22)) s g) K) : codeL Try.prog (Ok Try.prog) (nd5 [1, 1, 1, 1, 0, 1, 0, 0, 1, 1, 0, 0, 1, 0, 1, 0, 1, 1, 1, 0, 1, 1]) ⟨tm, g⟩ (exitL 2 (thenL (kj5_14 R9 K) (exitL 1 (thenL (kj5_12 R9 K) (roundK (fun tm : Nat → LV => (tm 3, tm 4, tm 21, tm 22)) (fun tm : Nat → LV => tm 23) R9 (exitL 0 (thenL (kj5_4  K) (en5 K)))))))) := by
  refine seq_i (a := nd5 [1, 1, 1, 1, 0, 1, 0, 0, 1, 1, 0, 0, 1, 0, 1, 0, 1, 1, 1, 0, 1, 1, 0]) (b := nd5 [1, 1, 1, 1, 0, 1, 0, 0, 1, 1, 0, 0, 1, 0, 1, 0, 1, 1, 1, 0, 1, 1, 1]) (k' := kj5_20 R9 K) (by kernel_rfl) (fun st h => J5_20_ok R9 K st.tm st.g h) ?_
  try unfold J5_19 at h
  unfold kj5_20
  generalize @J5_20 = Q5_20 at h ⊢
  unfold kj5_14
  generalize @J5_14 = Q5_14 at h ⊢
  unfold kj5_12
  generalize @J5_12 = Q5_12 at h ⊢
  unfold kj5_4
  generalize @J5_4 = Q5_4 at h ⊢
  refine code2_sound ok_mono _ _ _ ?_
  refine kmp ?_ h
  generalize Ok Try.prog = C
  try unfold en5
  as_aux_lemma => kernel_rfl

noncomputable def J5_18 (x3 x4 x6 x7 x21 x22 x23 : LV) (g : LHeap) (N9 : LV → LHeap → Prop) (K : LV → LHeap → Prop) : Prop :=
  vK (fieldAddrL 3 x6) fun t53 =>
  vK (loadV (some 3) t53 g) fun t54 =>
  vK (fieldAddrL 9 x6) fun t55 =>
  vK (loadV none t55 g) fun t56 =>
  Ok Try.prog 15 [x3, t54, t56] g fun t57 g =>
  J5_19 x3 x4 x6 x7 t57 x21 x22 x23 g N9 K
abbrev kj5_18 (R9 : LV × LV × LV × LV → LV → LHeap → Prop) (K : LV → LHeap → Prop) : LSt → Prop := fun st => J5_18 (st.tm 3) (st.tm 4) (st.tm 6) (st.tm 7) (st.tm 21) (st.tm 22) (st.tm 23) st.g (fun s g => R9 ((st.tm 3), (st.tm 4), (st.tm 21), (st.tm 22)) s g) K
theorem J5_18_ok (R9 : LV × LV × LV × LV → LV → LHeap → Prop) (K : LV → LHeap → Prop) (tm : Nat → LV) (g : LHeap) (h : J5_18 (tm 3) (tm 4) (tm 6) (tm 7) (tm 21) (tm 22) (tm 23) g (fun s g => R9 ((tm 3), (tm 4), (tm 21), (tm 22)) s g) K) : codeL Try.prog (Ok Try.prog) (nd5 [1, 1, 1, 1, 0, 1, 0, 0, 1, 1, 0, 0, 1, 0, 1, 0, 1, 1, 1, 0, 1]) ⟨tm, g⟩ (exitL 2 (thenL (kj5_14 R9 K) (exitL 1 (thenL (kj5_12 R9 K) (roundK (fun tm : Nat → LV => (tm 3, tm 4, tm 21, tm 22)) (fun tm : Nat → LV => tm 23) R9 (exitL 0 (thenL (kj5_4  K) (en5 K)))))))) := by
  refine seq_i (a := nd5 [1, 1, 1, 1, 0, 1, 0, 0, 1, 1, 0, 0, 1, 0, 1, 0, 1, 1, 1, 0, 1, 0]) (b := nd5 [1, 1, 1, 1, 0, 1, 0, 0, 1, 1, 0, 0, 1, 0, 1, 0, 1, 1, 1, 0, 1, 1]) (k' := kj5_19 R9 K) (by kernel_rfl) (fun st h => J5_19_ok R9 K st.tm st.g h) ?_
  try unfold J5_18 at h
  unfold kj5_19
  generalize @J5_19 = Q5_19 at h ⊢
  unfold kj5_14
  generalize @J5_14 = Q5_14 at h ⊢
  unfold kj5_12
  generalize @J5_12 = Q5_12 at h ⊢
  unfold kj5_4
  generalize @J5_4 = Q5_4 at h ⊢
  refine code2_sound ok_mono _ _ _ ?_
  refine kmp ?_ h
  generalize Ok Try.prog = C
  try unfold en5
  as_aux_lemma => kernel_rfl

noncomputable def J5_17 (x3 x4 x6 x21 x22 x23 x28 x45 : LV) (g : LHeap) (N9 : LV → LHeap → Prop) (K : LV → LHeap → Prop) : Prop :=
  ifB x45 (
  vK (fieldAddrL 3 x6) fun t48 =>
  vK (loadV (some 3) t48 g) fun t49 =>
  Ok Try.prog 17 [x3, t49] g fun t50 g =>
  oK (builtinL Try.prog .len [24] [t50] g) fun t51 g =>
  J5_18 x3 x4 x6 t51 x21 x22 x23 g N9 K) (
  vK (binL Try.prog .eql 3 true x28 (.int .i64 (2))) fun t80 =>
  ifB t80 (
  vK (fieldAddrL 1 x6) fun t82 =>
  vK (loadV none t82 g) fun t83 =>
  vK (fieldAddrL 1 x6) fun t86 =>
  vK (loadV none t86 g) fun t87 =>
  vK (lookupL Try.prog 54 x4 t87 false g) fun t88 =>
  ((Ok Try.prog 26 [x3, t83] g fun t84 g =>
  ((lookupL Try.prog 54 x4 t87 false g) = some t88 ∧ ((loadV none t86 g) = some t87 ∧ 
  vK (binL Try.prog .neq 4 false t84 t88) fun t89 =>
  ifB t89 (
  K (.bool false) g) (
  vK (fieldAddrL 1 x6) fun t91 =>
  vK (loadV none t91 g) fun t92 =>
  oK (builtinL Try.prog .delete [54, 3] [x4, t92] g) fun u g =>
  J5_14 x3 x4 x21 x22 x23 g N9 K)))) ∧ True)) (
  vK (binL Try.prog .eql 3 true x28 (.int .i64 (3))) fun t94 =>
  ifB t94 (
  vK (fieldAddrL 3 x6) fun t96 =>
  vK (loadV (some 3) t96 g) fun t97 =>
  vK (fieldAddrL 6 x6) fun t98 =>
  vK (loadV (some 3) t98 g) fun t99 =>
  vK (fieldAddrL 9 x6) fun t100 =>
  vK (loadV none t100 g) fun t101 =>
  Ok Try.prog 27 [x3, t97, t99, t101] g fun t102 g =>
  J5_14 x3 x4 x21 x22 x23 g N9 K) (
  J5_14 x3 x4 x21 x22 x23 g N9 K)))
abbrev kj5_17 (R9 : LV × LV × LV × LV → LV → LHeap → Prop) (K : LV → LHeap → Prop) : LSt → Prop := fun st => J5_17 (st.tm 3) (st.tm 4) (st.tm 6) (st.tm 21) (st.tm 22) (st.tm 23) (st.tm 28) (st.tm 45) st.g (fun s g => R9 ((st.tm 3), (st.tm 4), (st.tm 21), (st.tm 22)) s g) K
theorem J5_17_ok (R9 : LV × LV × LV × LV → LV → LHeap → Prop) (K : LV → LHeap → Prop) (tm : Nat → LV) (g : LHeap) (h : J5_17 (tm 3) (tm 4) (tm 6) (tm 21) (tm 22) (tm 23) (tm 28) (tm 45) g (fun s g => R9 ((tm 3), (tm 4), (tm 21), (tm 22)) s g) K) : codeL Try.prog (Ok Try.prog) (nd5 [1, 1, 1, 1, 0, 1, 0, 0, 1, 1, 0, 0, 1, 0, 1, 0, 1, 1, 1]) ⟨tm, g⟩ (exitL 2 (thenL (kj5_14 R9 K) (exitL 1 (thenL (kj5_12 R9 K) (roundK (fun tm : Nat → LV => (tm 3, tm 4, tm 21, tm 22)) (fun tm : Nat → LV => tm 23) R9 (exitL 0 (thenL (kj5_4  K) (en5 K)))))))) := by
  refine cond_i (a := nd5 [1, 1, 1, 1, 0, 1, 0, 0, 1, 1, 0, 0, 1, 0, 1, 0, 1, 1, 1, 0]) (b := nd5 [1, 1, 1, 1, 0, 1, 0, 0, 1, 1, 0, 0, 1, 0, 1, 0, 1, 1, 1, 1]) (by kernel_rfl) h (fun h => ?_) (fun h => ?_)
  refine seq_i (a := nd5 [1, 1, 1, 1, 0, 1, 0, 0, 1, 1, 0, 0, 1, 0, 1, 0, 1, 1, 1, 0, 0]) (b := nd5 [1, 1, 1, 1, 0, 1, 0, 0, 1, 1, 0, 0, 1, 0, 1, 0, 1, 1, 1, 0, 1]) (k' := kj5_18 R9 K) (by kernel_rfl) (fun st h => J5_18_ok R9 K st.tm st.g h) ?_
  try unfold J5_17 at h
  unfold kj5_18
  generalize @J5_18 = Q5_18 at h ⊢
  unfold kj5_14
  generalize @J5_14 = Q5_14 at h ⊢
  unfold kj5_12
  generalize @J5_12 = Q5_12 at h ⊢
  unfold kj5_4
  generalize @J5_4 = Q5_4 at h ⊢
  refine code2_sound ok_mono _ _ _ ?_
  refine kmp ?_ h
  generalize Ok Try.prog = C
  try unfold en5
  as_aux_lemma => kernel_rfl
  try unfold J5_17 at h
  unfold kj5_14
  generalize @J5_14 = Q5_14 at h ⊢
  unfold kj5_12
  generalize @J5_12 = Q5_12 at h ⊢
  unfold kj5_4
  generalize @J5_4 = Q5_4 at h ⊢
  refine code2_sound ok_mono _ _ _ ?_
  refine kmp ?_ h
  generalize Ok Try.prog = C
  try unfold en5
  as_aux_lemma => kernel_rfl

noncomputable def J5_16 (x3 x4 x6 x21 x22 x23 x28 x29 : LV) (g : LHeap) (N9 : LV → LHeap → Prop) (K : LV → LHeap → Prop) : Prop :=
  ifB x29 (
  vK (fieldAddrL 1 x6) fun t32 =>
  vK (loadV none t32 g) fun t33 =>
  vK (fieldAddrL 2 x6) fun t34 =>
  vK (loadV none t34 g) fun t35 =>
  Ok Try.prog 14 [x3, t33, t35] g fun t36 g =>
  vK (binL Try.prog .eql 28 true t36 (.int .i64 (0))) fun t37 =>
  ifB t37 (
  vK (fieldAddrL 1 x6) fun t39 =>
  vK (loadV none t39 g) fun t40 =>
  vK (lookupL Try.prog 54 x4 t40 false g) fun t41 =>
  ifB t41 (
  K (.bool false) g) (
  vK (fieldAddrL 1 x6) fun t43 =>
  vK (loadV none t43 g) fun t44 =>
  gK (mapSetL Try.prog 54 x4 t44 (.bool true) g) fun g =>
  J5_14 x3 x4 x21 x22 x23 g N9 K)) (
  J5_14 x3 x4 x21 x22 x23 g N9 K)) (
  vK (binL Try.prog .eql 3 true x28 (.int .i64 (1))) fun t46 =>
  J5_17 x3 x4 x6 x21 x22 x23 x28 t46 g N9 K)
abbrev kj5_16 (R9 : LV × LV × LV × LV → LV → LHeap → Prop) (K : LV → LHeap → Prop) : LSt → Prop := fun st => J5_16 (st.tm 3) (st.tm 4) (st.tm 6) (st.tm 21) (st.tm 22) (st.tm 23) (st.tm 28) (st.tm 29) st.g (fun s g => R9 ((st.tm 3), (st.tm 4), (st.tm 21), (st.tm 22)) s g) K
theorem J5_16_ok (R9 : LV × LV × LV × LV → LV → LHeap → Prop) (K : LV → LHeap → Prop) (tm : Nat → LV) (g : LHeap) (h : J5_16 (tm 3) (tm 4) (tm 6) (tm 21) (tm 22) (tm 23) (tm 28) (tm 29) g (fun s g => R9 ((tm 3), (tm 4), (tm 21), (tm 22)) s g) K) : codeL Try.prog (Ok Try.prog) (nd5 [1, 1, 1, 1, 0, 1, 0, 0, 1, 1, 0, 0, 1, 0, 1, 0, 1]) ⟨tm, g⟩ (exitL 2 (thenL (kj5_14 R9 K) (exitL 1 (thenL (kj5_12 R9 K) (roundK (fun tm : Nat → LV => (tm 3, tm 4, tm 21, tm 22)) (fun tm : Nat → LV => tm 23) R9 (exitL 0 (thenL (kj5_4  K) (en5 K)))))))) := by
  refine cond_i (a := nd5 [1, 1, 1, 1, 0, 1, 0, 0, 1, 1, 0, 0, 1, 0, 1, 0, 1, 0]) (b := nd5 [1, 1, 1, 1, 0, 1, 0, 0, 1, 1, 0, 0, 1, 0, 1, 0, 1, 1]) (by kernel_rfl) h (fun h => ?_) (fun h => ?_)
  try unfold J5_16 at h
  unfold kj5_14
  generalize @J5_14 = Q5_14 at h ⊢
  unfold kj5_12
  generalize @J5_12 = Q5_12 at h ⊢
  unfold kj5_4
  generalize @J5_4 = Q5_4 at h ⊢
  refine code2_sound ok_mono _ _ _ ?_
  refine kmp ?_ h
  generalize Ok Try.prog = C
  try unfold en5
  as_aux_lemma => kernel_rfl
  refine seq_i (a := nd5 [1, 1, 1, 1, 0, 1, 0, 0, 1, 1, 0, 0, 1, 0, 1, 0, 1, 1, 0]) (b := nd5 [1, 1, 1, 1, 0, 1, 0, 0, 1, 1, 0, 0, 1, 0, 1, 0, 1, 1, 1]) (k' := kj5_17 R9 K) (by kernel_rfl) (fun st h => J5_17_ok R9 K st.tm st.g h) ?_
  try unfold J5_16 at h
  unfold kj5_17
  generalize @J5_17 = Q5_17 at h ⊢
  unfold kj5_14
  generalize @J5_14 = Q5_14 at h ⊢
  unfold kj5_12
  generalize @J5_12 = Q5_12 at h ⊢
  unfold kj5_4
  generalize @J5_4 = Q5_4 at h ⊢
  refine code2_sound ok_mono _ _ _ ?_
  refine kmp ?_ h
  generalize Ok Try.prog = C
  try unfold en5
  as_aux_lemma => kernel_rfl

noncomputable def J5_15 (x3 x4 x6 x21 x22 x23 x28 : LV) (g : LHeap) (N9 : LV → LHeap → Prop) (K : LV → LHeap → Prop) : Prop :=
  vK (binL Try.prog .eql 3 true x28 (.int .i64 (0))) fun t30 =>
  J5_16 x3 x4 x6 x21 x22 x23 x28 t30 g N9 K
abbrev kj5_15 (R9 : LV × LV × LV × LV → LV → LHeap → Prop) (K : LV → LHeap → Prop) : LSt → Prop := fun st => J5_15 (st.tm 3) (st.tm 4) (st.tm 6) (st.tm 21) (st.tm 22) (st.tm 23) (st.tm 28) st.g (fun s g => R9 ((st.tm 3), (st.tm 4), (st.tm 21), (st.tm 22)) s g) K
theorem J5_15_ok (R9 : LV × LV × LV × LV → LV → LHeap → Prop) (K : LV → LHeap → Prop) (tm : Nat → LV) (g : LHeap) (h : J5_15 (tm 3) (tm 4) (tm 6) (tm 21) (tm 22) (tm 23) (tm 28) g (fun s g => R9 ((tm 3), (tm 4), (tm 21), (tm 22)) s g) K) : codeL Try.prog (Ok Try.prog) (nd5 [1, 1, 1, 1, 0, 1, 0, 0, 1, 1, 0, 0, 1, 0, 1]) ⟨tm, g⟩ (thenL (kj5_14 R9 K) (exitL 1 (thenL (kj5_12 R9 K) (roundK (fun tm : Nat → LV => (tm 3, tm 4, tm 21, tm 22)) (fun tm : Nat → LV => tm 23) R9 (exitL 0 (thenL (kj5_4  K) (en5 K))))))) := by
  refine block_i (b := nd5 [1, 1, 1, 1, 0, 1, 0, 0, 1, 1, 0, 0, 1, 0, 1, 0]) (i := 2) (by kernel_rfl) ?_
  refine seq_i (a := nd5 [1, 1, 1, 1, 0, 1, 0, 0, 1, 1, 0, 0, 1, 0, 1, 0, 0]) (b := nd5 [1, 1, 1, 1, 0, 1, 0, 0, 1, 1, 0, 0, 1, 0, 1, 0, 1]) (k' := kj5_16 R9 K) (by kernel_rfl) (fun st h => J5_16_ok R9 K st.tm st.g h) ?_
  try unfold J5_15 at h
  unfold kj5_16
  generalize @J5_16 = Q5_16 at h ⊢
  unfold kj5_14
  generalize @J5_14 = Q5_14 at h ⊢
  unfold kj5_12
  generalize @J5_12 = Q5_12 at h ⊢
  unfold kj5_4
  generalize @J5_4 = Q5_4 at h ⊢
  refine code2_sound ok_mono _ _ _ ?_
  refine kmp ?_ h
  generalize Ok Try.prog = C
  try unfold en5
  as_aux_lemma => kernel_rfl

noncomputable def J5_13 (x3 x4 x6 x21 x22 x23 : LV) (g : LHeap) (N9 : LV → LHeap → Prop) (K : LV → LHeap → Prop) : Prop :=
  vK (fieldAddrL 0 x6) fun t27 =>
  vK (loadV none t27 g) fun t28 =>
  J5_15 x3 x4 x6 x21 x22 x23 t28 g N9 K
abbrev kj5_13 (R9 : LV × LV × LV × LV → LV → LHeap → Prop) (K : LV → LHeap → Prop) : LSt → Prop := fun st => J5_13 (st.tm 3) (st.tm 4) (st.tm 6) (st.tm 21) (st.tm 22) (st.tm 23) st.g (fun s g => R9 ((st.tm 3), (st.tm 4), (st.tm 21), (st.tm 22)) s g) K
theorem J5_13_ok (R9 : LV × LV × LV × LV → LV → LHeap → Prop) (K : LV → LHeap → Prop) (tm : Nat → LV) (g : LHeap) (h : J5_13 (tm 3) (tm 4) (tm 6) (tm 21) (tm 22) (tm 23) g (fun s g => R9 ((tm 3), (tm 4), (tm 21), (tm 22)) s g) K) : codeL Try.prog (Ok Try.prog) (nd5 [1, 1, 1, 1, 0, 1, 0, 0, 1, 1, 0, 0, 1]) ⟨tm, g⟩ (exitL 1 (thenL (kj5_12 R9 K) (roundK (fun tm : Nat → LV => (tm 3, tm 4, tm 21, tm 22)) (fun tm : Nat → LV => tm 23) R9 (exitL 0 (thenL (kj5_4  K) (en5 K)))))) := by
  refine seq_i (a := nd5 [1, 1, 1, 1, 0, 1, 0, 0, 1, 1, 0, 0, 1, 0]) (b := nd5 [1, 1, 1, 1, 0, 1, 0, 0, 1, 1, 0, 0, 1, 1]) (k' := kj5_14 R9 K) (by kernel_rfl) (fun st h => J5_14_ok R9 K st.tm st.g h) ?_
  refine seq_i (a := nd5 [1, 1, 1, 1, 0, 1, 0, 0, 1, 1, 0, 0, 1, 0, 0]) (b := nd5 [1, 1, 1, 1, 0, 1, 0, 0, 1, 1, 0, 0, 1, 0, 1]) (k' := kj5_15 R9 K) (by kernel_rfl) (fun st h => J5_15_ok R9 K st.tm st.g h) ?_
  try unfold J5_13 at h
  unfold kj5_15
  generalize @J5_15 = Q5_15 at h ⊢
  unfold kj5_14
  generalize @J5_14 = Q5_14 at h ⊢
  unfold kj5_12
  generalize @J5_12 = Q5_12 at h ⊢
  unfold kj5_4
  generalize @J5_4 = Q5_4 at h ⊢
  refine code2_sound ok_mono _ _ _ ?_
  refine kmp ?_ h
  generalize Ok Try.prog = C
  try unfold en5
  as_aux_lemma => kernel_rfl

noncomputable def J5_11 (x3 x4 x21 x22 x23 : LV) (g : LHeap) (N9 : LV → LHeap → Prop) (K : LV → LHeap → Prop) : Prop :=
  vK (ixAddrL none 10 x21 x23) fun t25 =>
  vK (loadV (some 10) t25 g) fun t26 =>
  oK (newL (.agg [(.int .i64 (0)), (.int .i64 (0)), .nils, (.int .i64 (0)), (.int .i64 (0)), (.int .i64 (0)), (.int .i64 (0)), (.int .i64 (0)), (.int .i64 (0)), (.int .i64 (0))]) g) fun t6 g =>
  gK (storeV 10 t6 t26 g) fun g =>
  J5_13 x3 x4 t6 x21 x22 x23 g N9 K
abbrev kj5_11 (R9 : LV × LV × LV × LV → LV → LHeap → Prop) (K : LV → LHeap → Prop) : LSt → Prop := fun st => J5_11 (st.tm 3) (st.tm 4) (st.tm 21) (st.tm 22) (st.tm 23) st.g (fun s g => R9 ((st.tm 3), (st.tm 4), (st.tm 21), (st.tm 22)) s g) K
theorem J5_11_ok (R9 : LV × LV × LV × LV → LV → LHeap → Prop) (K : LV → LHeap → Prop) (tm : Nat → LV) (g : LHeap) (h : J5_11 (tm 3) (tm 4) (tm 21) (tm 22) (tm 23) g (fun s g => R9 ((tm 3), (tm 4), (tm 21), (tm 22)) s g) K) : codeL Try.prog (Ok Try.prog) (nd5 [1, 1, 1, 1, 0, 1, 0, 0, 1, 1]) ⟨tm, g⟩ (roundK (fun tm : Nat → LV => (tm 3, tm 4, tm 21, tm 22)) (fun tm : Nat → LV => tm 23) R9 (exitL 0 (thenL (kj5_4  K) (en5 K)))) := by
  refine seq_i (a := nd5 [1, 1, 1, 1, 0, 1, 0, 0, 1, 1, 0]) (b := nd5 [1, 1, 1, 1, 0, 1, 0, 0, 1, 1, 1]) (k' := kj5_12 R9 K) (by kernel_rfl) (fun st h => J5_12_ok R9 K st.tm st.g h) ?_
  refine block_i (b := nd5 [1, 1, 1, 1, 0, 1, 0, 0, 1, 1, 0, 0]) (i := 1) (by kernel_rfl) ?_
  refine seq_i (a := nd5 [1, 1, 1, 1, 0, 1, 0, 0, 1, 1, 0, 0, 0]) (b := nd5 [1, 1, 1, 1, 0, 1, 0, 0, 1, 1, 0, 0, 1]) (k' := kj5_13 R9 K) (by kernel_rfl) (fun st h => J5_13_ok R9 K st.tm st.g h) ?_
  try unfold J5_11 at h
  unfold kj5_13
  generalize @J5_13 = Q5_13 at h ⊢
  unfold kj5_12
  generalize @J5_12 = Q5_12 at h ⊢
  unfold kj5_4
  generalize @J5_4 = Q5_4 at h ⊢
  refine code2_sound ok_mono _ _ _ ?_
  refine kmp ?_ h
  generalize Ok Try.prog = C
  try unfold en5
  as_aux_lemma => kernel_rfl

noncomputable def J5_10 (x3 x4 x21 x22 x23 x24 : LV) (g : LHeap) (N9 : LV → LHeap → Prop) (K : LV → LHeap → Prop) : Prop :=
  ifB x24 (
  J5_11 x3 x4 x21 x22 x23 g N9 K) (
  J5_4 x3 x4 g  K)
abbrev kj5_10 (R9 : LV × LV × LV × LV → LV → LHeap → Prop) (K : LV → LHeap → Prop) : LSt → Prop := fun st => J5_10 (st.tm 3) (st.tm 4) (st.tm 21) (st.tm 22) (st.tm 23) (st.tm 24) st.g (fun s g => R9 ((st.tm 3), (st.tm 4), (st.tm 21), (st.tm 22)) s g) K
theorem J5_10_ok (R9 : LV × LV × LV × LV → LV → LHeap → Prop) (K : LV → LHeap → Prop) (tm : Nat → LV) (g : LHeap) (h : J5_10 (tm 3) (tm 4) (tm 21) (tm 22) (tm 23) (tm 24) g (fun s g => R9 ((tm 3), (tm 4), (tm 21), (tm 22)) s g) K) : codeL Try.prog (Ok Try.prog) (nd5 [1, 1, 1, 1, 0, 1, 0, 0, 1]) ⟨tm, g⟩ (roundK (fun tm : Nat → LV => (tm 3, tm 4, tm 21, tm 22)) (fun tm : Nat → LV => tm 23) R9 (exitL 0 (thenL (kj5_4  K) (en5 K)))) := by
  refine seq_i (a := nd5 [1, 1, 1, 1, 0, 1, 0, 0, 1, 0]) (b := nd5 [1, 1, 1, 1, 0, 1, 0, 0, 1, 1]) (k' := kj5_11 R9 K) (by kernel_rfl) (fun st h => J5_11_ok R9 K st.tm st.g h) ?_
  try unfold J5_10 at h
  unfold kj5_11
  generalize @J5_11 = Q5_11 at h ⊢
  unfold kj5_4
  generalize @J5_4 = Q5_4 at h ⊢
  refine code2_sound ok_mono _ _ _ ?_
  refine kmp ?_ h
  generalize Ok Try.prog = C
  try unfold en5
  as_aux_lemma => kernel_rfl

noncomputable def L5_9 (x3 x4 x21 x22 : LV) (x23 : LV) (g : LHeap) (N9 : LV → LHeap → Prop) (K : LV → LHeap → Prop) : Prop :=
  vK (binL Try.prog .lss 3 false x23 x22) fun t24 =>
  J5_10 x3 x4 x21 x22 x23 t24 g N9 K
theorem L5_9_ok (R9 : LV × LV × LV × LV → LV → LHeap → Prop) (K : LV → LHeap → Prop) (tm : Nat → LV) (g : LHeap) (h : L5_9 (tm 3) (tm 4) (tm 21) (tm 22) (tm 23) g (fun s g => R9 ((tm 3), (tm 4), (tm 21), (tm 22)) s g) K) : codeL Try.prog (Ok Try.prog) (nd5 [1, 1, 1, 1, 0, 1, 0, 0]) ⟨tm, g⟩ (roundK (fun tm : Nat → LV => (tm 3, tm 4, tm 21, tm 22)) (fun tm : Nat → LV => tm 23) R9 (exitL 0 (thenL (kj5_4  K) (en5 K)))) := by
  refine seq_i (a := nd5 [1, 1, 1, 1, 0, 1, 0, 0, 0]) (b := nd5 [1, 1, 1, 1, 0, 1, 0, 0, 1]) (k' := kj5_10 R9 K) (by kernel_rfl) (fun st h => J5_10_ok R9 K st.tm st.g h) ?_
  try unfold L5_9 at h
  unfold kj5_10
  generalize @J5_10 = Q5_10 at h ⊢
  unfold kj5_4
  generalize @J5_4 = Q5_4 at h ⊢
  refine code2_sound ok_mono _ _ _ ?_
  refine kmp ?_ h
  generalize Ok Try.prog = C
  try unfold en5
  as_aux_lemma => kernel_rfl

noncomputable def J5_8 (x3 x4 x21 x22 x23 : LV) (g : LHeap)  (K : LV → LHeap → Prop) : Prop :=
  loopP (fun s g N => L5_9 x3 x4 x21 x22 s g N  K) x23 g
abbrev kj5_8  (K : LV → LHeap → Prop) : LSt → Prop := fun st => J5_8 (st.tm 3) (st.tm 4) (st.tm 21) (st.tm 22) (st.tm 23) st.g  K
theorem J5_8_ok  (K : LV → LHeap → Prop) (tm : Nat → LV) (g : LHeap) (h : J5_8 (tm 3) (tm 4) (tm 21) (tm 22) (tm 23) g  K) : codeL Try.prog (Ok Try.prog) (nd5 [1, 1, 1, 1, 0, 1]) ⟨tm, g⟩ (thenL (kj5_4  K) (en5 K)) := by
  refine block_i (b := nd5 [1, 1, 1, 1, 0, 1, 0]) (i := 0) (by kernel_rfl) ?_
  exact loop_glue (b := nd5 [1, 1, 1, 1, 0, 1, 0, 0]) (by kernel_rfl) (fun tm : Nat → LV => (tm 3, tm 4, tm 21, tm 22)) (fun tm : Nat → LV => tm 23) (fun a s g N => L5_9 a.1 a.2.1 a.2.2.1 a.2.2.2 s g N  K) (fun tm g R h => L5_9_ok R  K tm g h) tm g h

noncomputable def J5_3 (x0 x3 x4 : LV) (g : LHeap)  (K : LV → LHeap → Prop) : Prop :=
  oK (builtinL Try.prog .len [53] [x0] g) fun t22 g =>
  J5_8 x3 x4 x0 t22 (.int .i64 (0)) g  K
abbrev kj5_3  (K : LV → LHeap → Prop) : LSt → Prop := fun st => J5_3 (st.tm 0) (st.tm 3) (st.tm 4) st.g  K
theorem J5_3_ok  (K : LV → LHeap → Prop) (tm : Nat → LV) (g : LHeap) (h : J5_3 (tm 0) (tm 3) (tm 4) g  K) : codeL Try.prog (Ok Try.prog) (nd5 [1, 1, 1, 1]) ⟨tm, g⟩ (en5 K) := by
  refine seq_i (a := nd5 [1, 1, 1, 1, 0]) (b := nd5 [1, 1, 1, 1, 1]) (k' := kj5_4  K) (by kernel_rfl) (fun st h => J5_4_ok  K st.tm st.g h) ?_
  refine seq_i (a := nd5 [1, 1, 1, 1, 0, 0]) (b := nd5 [1, 1, 1, 1, 0, 1]) (k' := kj5_8  K) (by kernel_rfl) (fun st h => J5_8_ok  K st.tm st.g h) ?_
  try unfold J5_3 at h
  unfold kj5_8
  generalize @J5_8 = Q5_8 at h ⊢
  unfold kj5_4
  generalize @J5_4 = Q5_4 at h ⊢
  refine code2_sound ok_mono _ _ _ ?_
  refine kmp ?_ h
  generalize Ok Try.prog = C
  try unfold en5
  as_aux_lemma => kernel_rfl

noncomputable def J5_2 (x0 x3 : LV) (g : LHeap)  (K : LV → LHeap → Prop) : Prop :=
  mkK (.map g.next) (g.alloc (.map [] 0 .ex)) fun t20 g =>
  J5_3 x0 x3 t20 g  K
abbrev kj5_2  (K : LV → LHeap → Prop) : LSt → Prop := fun st => J5_2 (st.tm 0) (st.tm 3) st.g  K
theorem J5_2_ok  (K : LV → LHeap → Prop) (tm : Nat → LV) (g : LHeap) (h : J5_2 (tm 0) (tm 3) g  K) : codeL Try.prog (Ok Try.prog) (nd5 [1, 1, 1]) ⟨tm, g⟩ (en5 K) := by
  refine seq_i (a := nd5 [1, 1, 1, 0]) (b := nd5 [1, 1, 1, 1]) (k' := kj5_3  K) (by kernel_rfl) (fun st h => J5_3_ok  K st.tm st.g h) ?_
  try unfold J5_2 at h
  unfold kj5_3
  generalize @J5_3 = Q5_3 at h ⊢
  refine code2_sound ok_mono _ _ _ ?_
  refine kmp ?_ h
  generalize Ok Try.prog = C
  try unfold en5
  as_aux_lemma => kernel_rfl

noncomputable def J5_1 (x0 x3 : LV) (g : LHeap)  (K : LV → LHeap → Prop) : Prop :=
  Ok Try.prog 13 [] g fun t14 g =>
  vK (unL .not t14) fun t15 =>
  gd t15 false g (fun K => K x3 g) fun t17 g =>
  gd t15 false g (fun K => vK (binL Try.prog .eql 25 true t17 .nilp) fun v => K v g) fun t18 g =>
  vK (pickL t15 (.bool true) t18) fun t19 =>
  ifB t19 (
  K (.bool false) g) (
  J5_2 x0 x3 g  K)
abbrev kj5_1  (K : LV → LHeap → Prop) : LSt → Prop := fun st => J5_1 (st.tm 0) (st.tm 3) st.g  K
theorem J5_1_ok  (K : LV → LHeap → Prop) (tm : Nat → LV) (g : LHeap) (h : J5_1 (tm 0) (tm 3) g  K) : codeL Try.prog (Ok Try.prog) (nd5 [1, 1]) ⟨tm, g⟩ (en5 K) := by
  refine seq_i (a := nd5 [1, 1, 0]) (b := nd5 [1, 1, 1]) (k' := kj5_2  K) (by kernel_rfl) (fun st h => J5_2_ok  K st.tm st.g h) ?_
  try unfold J5_1 at h
  unfold kj5_2
  generalize @J5_2 = Q5_2 at h ⊢
  refine code2_sound ok_mono _ _ _ ?_
  refine kmp ?_ h
  generalize Ok Try.prog = C
  try unfold en5
  as_aux_lemma => kernel_rfl

noncomputable def J5_0 (x0 : LV) (g : LHeap)  (K : LV → LHeap → Prop) : Prop :=
  Ok Try.prog 12 [] g fun t13 g =>
  J5_1 x0 t13 g  K
abbrev kj5_0  (K : LV → LHeap → Prop) : LSt → Prop := fun st => J5_0 (st.tm 0) st.g  K
theorem J5_0_ok  (K : LV → LHeap → Prop) (tm : Nat → LV) (g : LHeap) (h : J5_0 (tm 0) g  K) : codeL Try.prog (Ok Try.prog) (nd5 [1]) ⟨tm, g⟩ (en5 K) := by
  refine seq_i (a := nd5 [1, 0]) (b := nd5 [1, 1]) (k' := kj5_1  K) (by kernel_rfl) (fun st h => J5_1_ok  K st.tm st.g h) ?_
  try unfold J5_0 at h
  unfold kj5_1
  generalize @J5_1 = Q5_1 at h ⊢
  refine code2_sound ok_mono _ _ _ ?_
  refine kmp ?_ h
  generalize Ok Try.prog = C
  try unfold en5
  as_aux_lemma => kernel_rfl

noncomputable def F5 (x0 : LV) (g : LHeap) (K : LV → LHeap → Prop) : Prop :=
  J5_0 x0 g  K
theorem ok5 {x0 : LV} {g : LHeap} {K : LV → LHeap → Prop} (h : g.Wf → (∀ v ∈ ([x0] : List LV), ∀ b ∈ v.objs, b < g.next) → F5 x0 g K) : Ok Try.prog 5 [x0] g K := by
  refine ok_fw Try.mixed Try.func5 (by kernel_rfl) (by kernel_rfl) (c := nd5 []) (by kernel_rfl) fun wf lt => ?_
  rw [← en5_eq]
  replace h := h wf lt
  generalize hs : startL _ = tm
  replace h : F5 (tm 0) g K := by rw [← hs]; exact h
  refine seq_i (a := nd5 [0]) (b := nd5 [1]) (k' := kj5_0  K) (by kernel_rfl) (fun st h => J5_0_ok  K st.tm st.g h) ?_
  try unfold F5 at h
  unfold kj5_0
  generalize @J5_0 = Q5_0 at h ⊢
  refine code2_sound ok_mono _ _ _ ?_
  refine kmp ?_ h
  generalize Ok Try.prog = C
  try unfold en5
  as_aux_lemma => kernel_rfl

/-! parapet/parapetlaw12.WaitDoes (70 slots) -/
noncomputable def en10 (K : LV → LHeap → Prop) : LEx → LSt → Prop := fun e st => match e with
  | .exit _ => False
  | _ => K (st.tm 2) st.g
theorem en10_eq (K : LV → LHeap → Prop) : en10 K = endL Try.prog Try.f10 K := by
  funext e st
  cases e <;> kernel_rfl
noncomputable def nd10 (p : List Nat) : Code := subC p (bodyC Try.prog 10)
noncomputable def J10_5 (x3 x4 : LV) (g : LHeap)  (K : LV → LHeap → Prop) : Prop :=
  vK (buildL Try.prog 56 [(0, (.int .i64 (4)))]) fun t68 =>
  Ok Try.prog 38 [x3, x4, t68] g fun t69 g =>
  K t69 g
abbrev kj10_5  (K : LV → LHeap → Prop) : LSt → Prop := fun st => J10_5 (st.tm 3) (st.tm 4) st.g  K
theorem J10_5_ok  (K : LV → LHeap → Prop) (tm : Nat → LV) (g : LHeap) (h : J10_5 (tm 3) (tm 4) g  K) : codeL Try.prog (Ok Try.prog) (nd10 [1, 1, 1, 1, 1, 1]) ⟨tm, g⟩ (en10 K) := by
  try unfold J10_5 at h
  refine code2_sound ok_mono _ _ _ ?_
  refine kmp ?_ h
  generalize Ok Try.prog = C
  try unfold en10
  as_aux_lemma => kernel_rfl

noncomputable def L10_7 (x3 x4 x50 x51 : LV) (x52 : LV) (g : LHeap) (N7 : LV → LHeap → Prop) (K : LV → LHeap → Prop) : Prop :=
  vK (binL Try.prog .lss 3 false x52 x51) fun t53 =>
  ifB t53 (
  vK (ixAddrL none 5 x50 x52) fun t54 =>
  vK (loadV (some 5) t54 g) fun t55 =>
  oK (newL (.agg [(.int .i64 (0)), (.int .i64 (0)), (.int .i64 (0)), (.int .i64 (0)), (.int .i64 (0))]) g) fun t9 g =>
  gK (storeV 5 t9 t55 g) fun g =>
  vK (fieldAddrL 0 t9) fun t58 =>
  vK (loadV none t58 g) fun t59 =>
  vK (fieldAddrL 1 t9) fun t60 =>
  vK (loadV (some 3) t60 g) fun t61 =>
  vK (buildL Try.prog 56 [(0, (.int .i64 (4))), (1, t59), (3, t61)]) fun t62 =>
  Ok Try.prog 38 [x3, x4, t62] g fun t63 g =>
  vK (unL .not t63) fun t64 =>
  ifB t64 (
  K (.bool false) g) (
  vK (binL Try.prog .add 3 true x52 (.int .i64 (1))) fun t65 =>
  N7 t65 g)) (
  J10_5 x3 x4 g  K)
theorem L10_7_ok (R7 : LV × LV × LV × LV → LV → LHeap → Prop) (K : LV → LHeap → Prop) (tm : Nat → LV) (g : LHeap) (h : L10_7 (tm 3) (tm 4) (tm 50) (tm 51) (tm 52) g (fun s g => R7 ((tm 3), (tm 4), (tm 50), (tm 51)) s g) K) : codeL Try.prog (Ok Try.prog) (nd10 [1, 1, 1, 1, 1, 0, 1, 0, 0]) ⟨tm, g⟩ (roundK (fun tm : Nat → LV => (tm 3, tm 4, tm 50, tm 51)) (fun tm : Nat → LV => tm 52) R7 (exitL 2 (thenL (kj10_5  K) (en10 K)))) := by
  try unfold L10_7 at h
  unfold kj10_5
  generalize @J10_5 = Q10_5 at h ⊢
  refine code2_sound ok_mono _ _ _ ?_
  refine kmp ?_ h
  generalize Ok Try.prog = C
  try unfold en10
  as_aux_lemma => kernel_rfl

noncomputable def J10_6 (x3 x4 x50 x51 x52 : LV) (g : LHeap)  (K : LV → LHeap → Prop) : Prop :=
  loopP (fun s g N => L10_7 x3 x4 x50 x51 s g N  K) x52 g
abbrev kj10_6  (K : LV → LHeap → Prop) : LSt → Prop := fun st => J10_6 (st.tm 3) (st.tm 4) (st.tm 50) (st.tm 51) (st.tm 52) st.g  K
theorem J10_6_ok  (K : LV → LHeap → Prop) (tm : Nat → LV) (g : LHeap) (h : J10_6 (tm 3) (tm 4) (tm 50) (tm 51) (tm 52) g  K) : codeL Try.prog (Ok Try.prog) (nd10 [1, 1, 1, 1, 1, 0, 1]) ⟨tm, g⟩ (thenL (kj10_5  K) (en10 K)) := by
  refine block_i (b := nd10 [1, 1, 1, 1, 1, 0, 1, 0]) (i := 2) (by kernel_rfl) ?_
  exact loop_glue (b := nd10 [1, 1, 1, 1, 1, 0, 1, 0, 0]) (by kernel_rfl) (fun tm : Nat → LV => (tm 3, tm 4, tm 50, tm 51)) (fun tm : Nat → LV => tm 52) (fun a s g N => L10_7 a.1 a.2.1 a.2.2.1 a.2.2.2 s g N  K) (fun tm g R h => L10_7_ok R  K tm g h) tm g h

noncomputable def J10_4 (x3 x4 : LV) (g : LHeap)  (K : LV → LHeap → Prop) : Prop :=
  vK (nilCheckL x4) fun t48 =>
  vK (fieldAddrL 0 t48) fun t49 =>
  vK (loadV none t49 g) fun t50 =>
  oK (builtinL Try.prog .len [73] [t50] g) fun t51 g =>
  J10_6 x3 x4 t50 t51 (.int .i64 (0)) g  K
abbrev kj10_4  (K : LV → LHeap → Prop) : LSt → Prop := fun st => J10_4 (st.tm 3) (st.tm 4) st.g  K
theorem J10_4_ok  (K : LV → LHeap → Prop) (tm : Nat → LV) (g : LHeap) (h : J10_4 (tm 3) (tm 4) g  K) : codeL Try.prog (Ok Try.prog) (nd10 [1, 1, 1, 1, 1]) ⟨tm, g⟩ (en10 K) := by
  refine seq_i (a := nd10 [1, 1, 1, 1, 1, 0]) (b := nd10 [1, 1, 1, 1, 1, 1]) (k' := kj10_5  K) (by kernel_rfl) (fun st h => J10_5_ok  K st.tm st.g h) ?_
  refine seq_i (a := nd10 [1, 1, 1, 1, 1, 0, 0]) (b := nd10 [1, 1, 1, 1, 1, 0, 1]) (k' := kj10_6  K) (by kernel_rfl) (fun st h => J10_6_ok  K st.tm st.g h) ?_
  try unfold J10_4 at h
  unfold kj10_6
  generalize @J10_6 = Q10_6 at h ⊢
  unfold kj10_5
  generalize @J10_5 = Q10_5 at h ⊢
  refine code2_sound ok_mono _ _ _ ?_
  refine kmp ?_ h
  generalize Ok Try.prog = C
  try unfold en10
  as_aux_lemma => kernel_rfl

noncomputable def L10_9 (x4 x19 x20 : LV) (x3 x21 : LV) (g : LHeap) (N9 : LV × LV → LHeap → Prop) (K : LV → LHeap → Prop) : Prop :=
  vK (binL Try.prog .lss 3 false x21 x20) fun t22 =>
  ifB t22 (
  vK (ixAddrL none 10 x19 x21) fun t23 =>
  vK (loadV (some 10) t23 g) fun t24 =>
  oK (newL (.agg [(.int .i64 (0)), (.int .i64 (0)), .nils, (.int .i64 (0)), (.int .i64 (0)), (.int .i64 (0)), (.int .i64 (0)), (.int .i64 (0)), (.int .i64 (0)), (.int .i64 (0))]) g) fun t6 g =>
  gK (storeV 10 t6 t24 g) fun g =>
  vK (fieldAddrL 0 t6) fun t25 =>
  vK (loadV none t25 g) fun t26 =>
  vK (binL Try.prog .eql 3 true t26 (.int .i64 (5))) fun t27 =>
  ifB t27 (
  Ok Try.prog 37 [x3] g fun t29 g =>
  vK (binL Try.prog .eql 25 true t29 .nilp) fun t31 =>
  ifB t31 (
  K (.bool false) g) (
  vK (fieldAddrL 3 t6) fun t33 =>
  vK (loadV (some 3) t33 g) fun t34 =>
  Ok Try.prog 15 [x3, t34, (.int .i64 (9))] g fun t35 g =>
  vK (fieldAddrL 1 t6) fun t37 =>
  vK (loadV none t37 g) fun t38 =>
  Ok Try.prog 26 [x3, t38] g fun t39 g =>
  vK (binL Try.prog .add 3 true x21 (.int .i64 (1))) fun t46 =>
  N9 (t29, t46) g)) (
  vK (loadV (some 10) t6 g) fun t43 =>
  Ok Try.prog 38 [x3, x4, t43] g fun t44 g =>
  vK (unL .not t44) fun t45 =>
  ifB t45 (
  K (.bool false) g) (
  vK (binL Try.prog .add 3 true x21 (.int .i64 (1))) fun t46 =>
  N9 (x3, t46) g))) (
  J10_4 x3 x4 g  K)
theorem L10_9_ok (R9 : LV × LV × LV → LV × LV → LHeap → Prop) (K : LV → LHeap → Prop) (tm : Nat → LV) (g : LHeap) (h : L10_9 (tm 4) (tm 19) (tm 20) (tm 3) (tm 21) g (fun s g => R9 ((tm 4), (tm 19), (tm 20)) s g) K) : codeL Try.prog (Ok Try.prog) (nd10 [1, 1, 1, 1, 0, 1, 0, 0]) ⟨tm, g⟩ (roundK (fun tm : Nat → LV => (tm 4, tm 19, tm 20)) (fun tm : Nat → LV => (tm 3, tm 21)) R9 (exitL 0 (thenL (kj10_4  K) (en10 K)))) := by
  try unfold L10_9 at h
  unfold kj10_4
  generalize @J10_4 = Q10_4 at h ⊢
  refine code2_sound ok_mono _ _ _ ?_
  refine kmp ?_ h
  generalize Ok Try.prog = C
  try unfold en10
  as_aux_lemma => kernel_rfl

noncomputable def J10_8 (x3 x4 x19 x20 x21 : LV) (g : LHeap)  (K : LV → LHeap → Prop) : Prop :=
  loopP (fun s g N => L10_9 x4 x19 x20 s.1 s.2 g N  K) (x3, x21) g
abbrev kj10_8  (K : LV → LHeap → Prop) : LSt → Prop := fun st => J10_8 (st.tm 3) (st.tm 4) (st.tm 19) (st.tm 20) (st.tm 21) st.g  K
theorem J10_8_ok  (K : LV → LHeap → Prop) (tm : Nat → LV) (g : LHeap) (h : J10_8 (tm 3) (tm 4) (tm 19) (tm 20) (tm 21) g  K) : codeL Try.prog (Ok Try.prog) (nd10 [1, 1, 1, 1, 0, 1]) ⟨tm, g⟩ (thenL (kj10_4  K) (en10 K)) := by
  refine block_i (b := nd10 [1, 1, 1, 1, 0, 1, 0]) (i := 0) (by kernel_rfl) ?_
  exact loop_glue (b := nd10 [1, 1, 1, 1, 0, 1, 0, 0]) (by kernel_rfl) (fun tm : Nat → LV => (tm 4, tm 19, tm 20)) (fun tm : Nat → LV => (tm 3, tm 21)) (fun a s g N => L10_9 a.1 a.2.1 a.2.2 s.1 s.2 g N  K) (fun tm g R h => L10_9_ok R  K tm g h) tm g h

noncomputable def J10_3 (x0 x3 x4 : LV) (g : LHeap)  (K : LV → LHeap → Prop) : Prop :=
  oK (builtinL Try.prog .len [53] [x0] g) fun t20 g =>
  J10_8 x3 x4 x0 t20 (.int .i64 (0)) g  K
abbrev kj10_3  (K : LV → LHeap → Prop) : LSt → Prop := fun st => J10_3 (st.tm 0) (st.tm 3) (st.tm 4) st.g  K
theorem J10_3_ok  (K : LV → LHeap → Prop) (tm : Nat → LV) (g : LHeap) (h : J10_3 (tm 0) (tm 3) (tm 4) g  K) : codeL Try.prog (Ok Try.prog) (nd10 [1, 1, 1, 1]) ⟨tm, g⟩ (en10 K) := by
  refine seq_i (a := nd10 [1, 1, 1, 1, 0]) (b := nd10 [1, 1, 1, 1, 1]) (k' := kj10_4  K) (by kernel_rfl) (fun st h => J10_4_ok  K st.tm st.g h) ?_
  refine seq_i (a := nd10 [1, 1, 1, 1, 0, 0]) (b := nd10 [1, 1, 1, 1, 0, 1]) (k' := kj10_8  K) (by kernel_rfl) (fun st h => J10_8_ok  K st.tm st.g h) ?_
  try unfold J10_3 at h
  unfold kj10_8
  generalize @J10_8 = Q10_8 at h ⊢
  unfold kj10_4
  generalize @J10_4 = Q10_4 at h ⊢
  refine code2_sound ok_mono _ _ _ ?_
  refine kmp ?_ h
  generalize Ok Try.prog = C
  try unfold en10
  as_aux_lemma => kernel_rfl

noncomputable def J10_2 (x0 x3 : LV) (g : LHeap)  (K : LV → LHeap → Prop) : Prop :=
  vK (buildL Try.prog 75 []) fun t17 =>
  oK (newL t17 g) fun t18 g =>
  J10_3 x0 x3 t18 g  K
abbrev kj10_2  (K : LV → LHeap → Prop) : LSt → Prop := fun st => J10_2 (st.tm 0) (st.tm 3) st.g  K
theorem J10_2_ok  (K : LV → LHeap → Prop) (tm : Nat → LV) (g : LHeap) (h : J10_2 (tm 0) (tm 3) g  K) : codeL Try.prog (Ok Try.prog) (nd10 [1, 1, 1]) ⟨tm, g⟩ (en10 K) := by
  refine seq_i (a := nd10 [1, 1, 1, 0]) (b := nd10 [1, 1, 1, 1]) (k' := kj10_3  K) (by kernel_rfl) (fun st h => J10_3_ok  K st.tm st.g h) ?_
  try unfold J10_2 at h
  unfold kj10_3
  generalize @J10_3 = Q10_3 at h ⊢
  refine code2_sound ok_mono _ _ _ ?_
  refine kmp ?_ h
  generalize Ok Try.prog = C
  try unfold en10
  as_aux_lemma => kernel_rfl

noncomputable def J10_1 (x0 x3 : LV) (g : LHeap)  (K : LV → LHeap → Prop) : Prop :=
  Ok Try.prog 13 [] g fun t11 g =>
  vK (unL .not t11) fun t12 =>
  gd t12 false g (fun K => K x3 g) fun t14 g =>
  gd t12 false g (fun K => vK (binL Try.prog .eql 25 true t14 .nilp) fun v => K v g) fun t15 g =>
  vK (pickL t12 (.bool true) t15) fun t16 =>
  ifB t16 (
  K (.bool false) g) (
  J10_2 x0 x3 g  K)
abbrev kj10_1  (K : LV → LHeap → Prop) : LSt → Prop := fun st => J10_1 (st.tm 0) (st.tm 3) st.g  K
theorem J10_1_ok  (K : LV → LHeap → Prop) (tm : Nat → LV) (g : LHeap) (h : J10_1 (tm 0) (tm 3) g  K) : codeL Try.prog (Ok Try.prog) (nd10 [1, 1]) ⟨tm, g⟩ (en10 K) := by
  refine seq_i (a := nd10 [1, 1, 0]) (b := nd10 [1, 1, 1]) (k' := kj10_2  K) (by kernel_rfl) (fun st h => J10_2_ok  K st.tm st.g h) ?_
  try unfold J10_1 at h
  unfold kj10_2
  generalize @J10_2 = Q10_2 at h ⊢
  refine code2_sound ok_mono _ _ _ ?_
  refine kmp ?_ h
  generalize Ok Try.prog = C
  try unfold en10
  as_aux_lemma => kernel_rfl

noncomputable def J10_0 (x0 : LV) (g : LHeap)  (K : LV → LHeap → Prop) : Prop :=
  Ok Try.prog 12 [] g fun t10 g =>
  J10_1 x0 t10 g  K
abbrev kj10_0  (K : LV → LHeap → Prop) : LSt → Prop := fun st => J10_0 (st.tm 0) st.g  K
theorem J10_0_ok  (K : LV → LHeap → Prop) (tm : Nat → LV) (g : LHeap) (h : J10_0 (tm 0) g  K) : codeL Try.prog (Ok Try.prog) (nd10 [1]) ⟨tm, g⟩ (en10 K) := by
  refine seq_i (a := nd10 [1, 0]) (b := nd10 [1, 1]) (k' := kj10_1  K) (by kernel_rfl) (fun st h => J10_1_ok  K st.tm st.g h) ?_
  try unfold J10_0 at h
  unfold kj10_1
  generalize @J10_1 = Q10_1 at h ⊢
  refine code2_sound ok_mono _ _ _ ?_
  refine kmp ?_ h
  generalize Ok Try.prog = C
  try unfold en10
  as_aux_lemma => kernel_rfl

noncomputable def F10 (x0 : LV) (g : LHeap) (K : LV → LHeap → Prop) : Prop :=
  J10_0 x0 g  K
theorem ok10 {x0 : LV} {g : LHeap} {K : LV → LHeap → Prop} (h : g.Wf → (∀ v ∈ ([x0] : List LV), ∀ b ∈ v.objs, b < g.next) → F10 x0 g K) : Ok Try.prog 10 [x0] g K := by
  refine ok_fw Try.mixed Try.func10 (by kernel_rfl) (by kernel_rfl) (c := nd10 []) (by kernel_rfl) fun wf lt => ?_
  rw [← en10_eq]
  replace h := h wf lt
  generalize hs : startL _ = tm
  replace h : F10 (tm 0) g K := by rw [← hs]; exact h
  refine seq_i (a := nd10 [0]) (b := nd10 [1]) (k' := kj10_0  K) (by kernel_rfl) (fun st h => J10_0_ok  K st.tm st.g h) ?_
  try unfold F10 at h
  unfold kj10_0
  generalize @J10_0 = Q10_0 at h ⊢
  refine code2_sound ok_mono _ _ _ ?_
  refine kmp ?_ h
  generalize Ok Try.prog = C
  try unfold en10
  as_aux_lemma => kernel_rfl

/-! parapet/parapetlaw12.awake (62 slots) -/
noncomputable def en13 (K : LV → LHeap → Prop) : LEx → LSt → Prop := fun e st => match e with
  | .exit _ => False
  | _ => K (st.tm 0) st.g
theorem en13_eq (K : LV → LHeap → Prop) : en13 K = endL Try.prog Try.f13 K := by
  funext e st
  cases e <;> kernel_rfl
noncomputable def nd13 (p : List Nat) : Code := subC p (bodyC Try.prog 13)
noncomputable def F13 (g : LHeap) (K : LV → LHeap → Prop) : Prop :=
  Ok Try.prog 12 [] g fun t4 g =>
  vK (buildL Try.prog 23 [(0, (.int .i64 (1)))]) fun t5 =>
  vK (buildL Try.prog 23 [(0, (.int .i64 (2)))]) fun t6 =>
  oK (newL (.agg [(.int .i64 (0)), (.int .i64 (0)), (.int .i64 (0))]) g) fun t2 g =>
  oK (newL (.agg [(.int .i64 (0)), (.int .i64 (0)), (.int .i64 (0))]) g) fun t3 g =>
  gK (storeV 3 t2 t5 g) fun g =>
  gK (storeV 3 t3 t6 g) fun g =>
  vK (binL Try.prog .eql 25 true t4 .nilp) fun t8 =>
  gd t8 false g (fun K => K t4 g) fun t10 g =>
  gd t8 false g (fun K => vK (loadV (some 3) t2 g) fun v => K v g) fun t11 g =>
  gd t8 false g (fun K => oK (buildSliceL Try.prog 30 1 [(0, t11)] g) K) fun t12 g =>
  gd t8 false g (fun K => Ok Try.prog 14 [t10, (.int .i64 (1)), t12] g K) fun t13 g =>
  gd t8 false g (fun K => vK (binL Try.prog .neq 28 true t13 (.int .i64 (0))) fun v => K v g) fun t14 g =>
  vK (pickL t8 (.bool true) t14) fun t15 =>
  gd t15 false g (fun K => K t4 g) fun t17 g =>
  gd t15 false g (fun K => vK (loadV (some 3) t2 g) fun v => K v g) fun t18 g =>
  gd t15 false g (fun K => vK (loadV (some 3) t3 g) fun v => K v g) fun t19 g =>
  gd t15 false g (fun K => oK (buildSliceL Try.prog 30 2 [(0, t18), (1, t19)] g) K) fun t20 g =>
  gd t15 false g (fun K => Ok Try.prog 14 [t17, (.int .i64 (2)), t20] g K) fun t21 g =>
  gd t15 false g (fun K => vK (binL Try.prog .neq 28 true t21 (.int .i64 (0))) fun v => K v g) fun t22 g =>
  vK (pickL t15 (.bool true) t22) fun t23 =>
  gd t23 false g (fun K => K t4 g) fun t25 g =>
  gd t23 false g (fun K => vK (loadV (some 3) t2 g) fun v => K v g) fun t26 g =>
  gd t23 false g (fun K => oK (buildSliceL Try.prog 30 1 [(0, t26)] g) K) fun t27 g =>
  gd t23 false g (fun K => Ok Try.prog 14 [t25, (.int .i64 (3)), t27] g K) fun t28 g =>
  gd t23 false g (fun K => vK (binL Try.prog .neq 28 true t28 (.int .i64 (0))) fun v => K v g) fun t29 g =>
  vK (pickL t23 (.bool true) t29) fun t30 =>
  ifB t30 (
  K (.bool false) g) (
  vK (loadV (some 3) t3 g) fun t32 =>
  Ok Try.prog 15 [t4, t32, (.int .i64 (5))] g fun t33 g =>
  oK (buildSliceL Try.prog 24 1 [(0, (.int .i64 (2)))] g) fun t34 g =>
  Ok Try.prog 16 [t33, t34] g fun t35 g =>
  gd t35 true g (fun K => K t4 g) fun t37 g =>
  gd t35 true g (fun K => vK (loadV (some 3) t2 g) fun v => K v g) fun t38 g =>
  gd t35 true g (fun K => Ok Try.prog 15 [t37, t38, (.int .i64 (1))] g K) fun t39 g =>
  gd t35 true g (fun K => oK (buildSliceL Try.prog 24 1 [(0, (.int .i64 (1)))] g) K) fun t40 g =>
  gd t35 true g (fun K => Ok Try.prog 16 [t39, t40] g K) fun t41 g =>
  vK (pickL t35 t41 (.bool false)) fun t42 =>
  gd t42 true g (fun K => K t4 g) fun t44 g =>
  gd t42 true g (fun K => vK (loadV (some 3) t2 g) fun v => K v g) fun t45 g =>
  gd t42 true g (fun K => vK (loadV (some 3) t3 g) fun v => K v g) fun t46 g =>
  gd t42 true g (fun K => Ok Try.prog 27 [t44, t45, t46, (.int .i64 (9))] g K) fun t47 g =>
  gd t42 true g (fun K => vK (binL Try.prog .eql 3 true t47 (.int .i64 (1))) fun v => K v g) fun t48 g =>
  vK (pickL t42 t48 (.bool false)) fun t49 =>
  gd t49 true g (fun K => K t4 g) fun t51 g =>
  gd t49 true g (fun K => vK (loadV (some 3) t3 g) fun v => K v g) fun t52 g =>
  gd t49 true g (fun K => Ok Try.prog 15 [t51, t52, (.int .i64 (1))] g K) fun t53 g =>
  gd t49 true g (fun K => oK (buildSliceL Try.prog 24 1 [(0, (.int .i64 (3)))] g) K) fun t54 g =>
  gd t49 true g (fun K => Ok Try.prog 16 [t53, t54] g K) fun t55 g =>
  vK (pickL t49 t55 (.bool false)) fun t56 =>
  gd t56 true g (fun K => K t4 g) fun t58 g =>
  gd t56 true g (fun K => Ok Try.prog 28 [t58] g K) fun t59 g =>
  gd t56 true g (fun K => vK (binL Try.prog .eql 3 true t59 (.int .i64 (0))) fun v => K v g) fun t60 g =>
  vK (pickL t56 t60 (.bool false)) fun t61 =>
  K t61 g)
theorem ok13 {g : LHeap} {K : LV → LHeap → Prop} (h : g.Wf → (∀ v ∈ ([] : List LV), ∀ b ∈ v.objs, b < g.next) → F13  g K) : Ok Try.prog 13 [] g K := by
  refine ok_fw Try.mixed Try.func13 (by kernel_rfl) (by kernel_rfl) (c := nd13 []) (by kernel_rfl) fun wf lt => ?_
  rw [← en13_eq]
  replace h := h wf lt
  generalize startL _ = tm
  try unfold F13 at h
  refine code2_sound ok_mono _ _ _ ?_
  refine kmp ?_ h
  generalize Ok Try.prog = C
  try unfold en13
  as_aux_lemma => kernel_rfl

/-! parapet/parapetlaw12.does (126 slots) -/
noncomputable def en38 (K : LV → LHeap → Prop) : LEx → LSt → Prop := fun e st => match e with
  | .exit _ => False
  | _ => K (st.tm 6) st.g
theorem en38_eq (K : LV → LHeap → Prop) : en38 K = endL Try.prog Try.f38 K := by
  funext e st
  cases e <;> kernel_rfl
noncomputable def nd38 (p : List Nat) : Code := subC p (bodyC Try.prog 38)
noncomputable def J38_1 (x0 x1 x5 : LV) (g : LHeap)  (K : LV → LHeap → Prop) : Prop :=
  Ok Try.prog 65 [x1] g fun t92 g =>
  vK (fieldAddrL 3 x5) fun t94 =>
  vK (loadV (some 3) t94 g) fun t95 =>
  vK (fieldAddrL 3 x5) fun t98 =>
  vK (loadV (some 3) t98 g) fun t99 =>
  ((Ok Try.prog 17 [x0, t95] g fun t96 g =>
  ((loadV (some 3) t98 g) = some t99 ∧ 
  ((Ok Try.prog 66 [x1, t99] g fun t100 g =>
  
  ((Ok Try.prog 16 [t96, t100] g fun t101 g =>
  
  gdV t101 true (some x0) fun t103 =>
  gdV t101 true (fieldAddrL 1 x5) fun t104 =>
  gdD t101 true (loadV none t104 g) (fun t105 =>
  gdV t101 true (some x1) fun t107 =>
  gdV t101 true (fieldAddrL 1 x5) fun t108 =>
  gdD t101 true (loadV none t108 g) (fun t109 =>
  ((gd t101 true g (fun K => Ok Try.prog 39 [t103, t105] g K) fun t106 g =>
  ((loadV none t108 g) = some t109 ∧ 
  ((gd t101 true g (fun K => Ok Try.prog 68 [t107, t109] g K) fun t110 g =>
  
  ((gd t101 true g (fun K => Ok Try.prog 67 [t106, t110] g K) fun t111 g =>
  
  vK (pickL t101 t111 (.bool false)) fun t112 =>
  gdV t112 true (some x0) fun t114 =>
  gdV t112 true (some t92) fun t116 =>
  ((gd t112 true g (fun K => Ok Try.prog 29 [t114] g K) fun t115 g =>
  
  ((gd t112 true g (fun K => Ok Try.prog 16 [t115, t116] g K) fun t117 g =>
  
  vK (pickL t112 t117 (.bool false)) fun t118 =>
  gdV t118 true (some x0) fun t120 =>
  gdV t118 true (some t92) fun t122 =>
  gdV t118 true (lenL Try.prog 24 t122 g) fun t123 =>
  ((gd t118 true g (fun K => Ok Try.prog 28 [t120] g K) fun t121 g =>
  
  gdV t118 true (binL Try.prog .eql 3 false t121 t123) fun t124 =>
  vK (pickL t118 t124 (.bool false)) fun t125 =>
  K t125 g) ∧ True)) ∧ True)) ∧ True)) ∧ True)) ∧ True))) ∧ True)) (
  ((gd t101 true g (fun K => Ok Try.prog 39 [t103, t105] g K) fun t106 g =>
  
  ((gd t101 true g (fun K => Ok Try.prog 68 [t107, undefL] g K) fun t110 g =>
  
  ((gd t101 true g (fun K => Ok Try.prog 67 [t106, t110] g K) fun t111 g =>
  
  vK (pickL t101 t111 (.bool false)) fun t112 =>
  gdV t112 true (some x0) fun t114 =>
  gdV t112 true (some t92) fun t116 =>
  ((gd t112 true g (fun K => Ok Try.prog 29 [t114] g K) fun t115 g =>
  
  ((gd t112 true g (fun K => Ok Try.prog 16 [t115, t116] g K) fun t117 g =>
  
  vK (pickL t112 t117 (.bool false)) fun t118 =>
  gdV t118 true (some x0) fun t120 =>
  gdV t118 true (some t92) fun t122 =>
  gdV t118 true (lenL Try.prog 24 t122 g) fun t123 =>
  ((gd t118 true g (fun K => Ok Try.prog 28 [t120] g K) fun t121 g =>
  
  gdV t118 true (binL Try.prog .eql 3 false t121 t123) fun t124 =>
  vK (pickL t118 t124 (.bool false)) fun t125 =>
  K t125 g) ∧ True)) ∧ True)) ∧ True)) ∧ True)) ∧ True)) ∧ True))) (
  gdV t101 true (some x1) fun t107 =>
  gdV t101 true (fieldAddrL 1 x5) fun t108 =>
  gdD t101 true (loadV none t108 g) (fun t109 =>
  ((gd t101 true g (fun K => Ok Try.prog 39 [t103, undefL] g K) fun t106 g =>
  ((loadV none t108 g) = some t109 ∧ 
  ((gd t101 true g (fun K => Ok Try.prog 68 [t107, t109] g K) fun t110 g =>
  
  ((gd t101 true g (fun K => Ok Try.prog 67 [t106, t110] g K) fun t111 g =>
  
  vK (pickL t101 t111 (.bool false)) fun t112 =>
  gdV t112 true (some x0) fun t114 =>
  gdV t112 true (some t92) fun t116 =>
  ((gd t112 true g (fun K => Ok Try.prog 29 [t114] g K) fun t115 g =>
  
  ((gd t112 true g (fun K => Ok Try.prog 16 [t115, t116] g K) fun t117 g =>
  
  vK (pickL t112 t117 (.bool false)) fun t118 =>
  gdV t118 true (some x0) fun t120 =>
  gdV t118 true (some t92) fun t122 =>
  gdV t118 true (lenL Try.prog 24 t122 g) fun t123 =>
  ((gd t118 true g (fun K => Ok Try.prog 28 [t120] g K) fun t121 g =>
  
  gdV t118 true (binL Try.prog .eql 3 false t121 t123) fun t124 =>
  vK (pickL t118 t124 (.bool false)) fun t125 =>
  K t125 g) ∧ True)) ∧ True)) ∧ True)) ∧ True)) ∧ True))) ∧ True)) (
  ((gd t101 true g (fun K => Ok Try.prog 39 [t103, undefL] g K) fun t106 g =>
  
  ((gd t101 true g (fun K => Ok Try.prog 68 [t107, undefL] g K) fun t110 g =>
  
  ((gd t101 true g (fun K => Ok Try.prog 67 [t106, t110] g K) fun t111 g =>
  
  vK (pickL t101 t111 (.bool false)) fun t112 =>
  gdV t112 true (some x0) fun t114 =>
  gdV t112 true (some t92) fun t116 =>
  ((gd t112 true g (fun K => Ok Try.prog 29 [t114] g K) fun t115 g =>
  
  ((gd t112 true g (fun K => Ok Try.prog 16 [t115, t116] g K) fun t117 g =>
  
  vK (pickL t112 t117 (.bool false)) fun t118 =>
  gdV t118 true (some x0) fun t120 =>
  gdV t118 true (some t92) fun t122 =>
  gdV t118 true (lenL Try.prog 24 t122 g) fun t123 =>
  ((gd t118 true g (fun K => Ok Try.prog 28 [t120] g K) fun t121 g =>
  
  gdV t118 true (binL Try.prog .eql 3 false t121 t123) fun t124 =>
  vK (pickL t118 t124 (.bool false)) fun t125 =>
  K t125 g) ∧ True)) ∧ True)) ∧ True)) ∧ True)) ∧ True)) ∧ True)))) ∧ True)) ∧ True))) ∧ True)
abbrev kj38_1  (K : LV → LHeap → Prop) : LSt → Prop := fun st => J38_1 (st.tm 0) (st.tm 1) (st.tm 5) st.g  K
theorem J38_1_ok  (K : LV → LHeap → Prop) (tm : Nat → LV) (g : LHeap) (h : J38_1 (tm 0) (tm 1) (tm 5) g  K) : codeL Try.prog (Ok Try.prog) (nd38 [1, 1]) ⟨tm, g⟩ (en38 K) := by
  try unfold J38_1 at h
  refine code3_sound ok_mono (pl := [(18, (.lt 0 false (.lt 1 false (.lt 2 false (.lt 4 false (.lt 5 false (.lt 6 true (.hv 3 (.hv 7 (.hv 8 (.lt 9 false (.lt 10 false (.lt 11 false (.lt 12 true (.lt 14 false (.lt 15 false (.lt 16 true (.hv 13 (.hv 17 (.hv 18 (.lt 19 false (.lt 20 false (.lt 21 false (.lt 23 false (.hv 22 (.hv 24 (.lt 25 false (.lt 26 false (.lt 27 false (.lt 29 false (.lt 30 false (.hv 28 (.lt 31 false (.lt 32 false (.lt 33 false .nil))) .nil)))))) .nil) .nil))))) .nil) .nil) .nil)))))))) .nil) .nil) .nil))))))))]) _ _ _ (by kernel_rfl) ?_
  refine kmp ?_ h
  generalize Ok Try.prog = C
  try unfold en38
  as_aux_lemma => kernel_rfl

noncomputable def J38_6 (x1 x5 x8 : LV) (g : LHeap)  (K : LV → LHeap → Prop) : Prop :=
  vK (fieldAddrL 1 x5) fun t40 =>
  vK (loadV none t40 g) fun t41 =>
  vK (fieldAddrL 2 x5) fun t42 =>
  vK (loadV none t42 g) fun t43 =>
  Ok Try.prog 61 [x1, t41, t43] g fun t44 g =>
  vK (binL Try.prog .eql 28 false x8 t44) fun t45 =>
  K t45 g
abbrev kj38_6  (K : LV → LHeap → Prop) : LSt → Prop := fun st => J38_6 (st.tm 1) (st.tm 5) (st.tm 8) st.g  K
theorem J38_6_ok  (K : LV → LHeap → Prop) (tm : Nat → LV) (g : LHeap) (h : J38_6 (tm 1) (tm 5) (tm 8) g  K) : codeL Try.prog (Ok Try.prog) (nd38 [1, 0, 1, 0, 1, 0, 1, 1, 1]) ⟨tm, g⟩ (exitL 0 (thenL (kj38_1  K) (en38 K))) := by
  try unfold J38_6 at h
  unfold kj38_1
  generalize @J38_1 = Q38_1 at h ⊢
  refine code2_sound ok_mono _ _ _ ?_
  refine kmp ?_ h
  generalize Ok Try.prog = C
  try unfold en38
  as_aux_lemma => kernel_rfl

noncomputable def L38_8 (x1 x5 x7 x8 x25 : LV) (x26 : LV) (g : LHeap) (N8 : LV → LHeap → Prop) (K : LV → LHeap → Prop) : Prop :=
  vK (binL Try.prog .lss 3 false x26 x25) fun t27 =>
  ifB t27 (
  vK (ixAddrL none 3 x7 x26) fun t31 =>
  vK (fieldAddrL 1 t31) fun t32 =>
  vK (loadV none t32 g) fun t33 =>
  vK (binL Try.prog .add 3 true t33 (.int .i64 (9))) fun t34 =>
  vK (ixAddrL none 3 x7 x26) fun t35 =>
  vK (fieldAddrL 1 t35) fun t36 =>
  gK (storeV 1 t36 t34 g) fun g =>
  vK (binL Try.prog .add 3 true x26 (.int .i64 (1))) fun t37 =>
  N8 t37 g) (
  J38_6 x1 x5 x8 g  K)
theorem L38_8_ok (R8 : LV × LV × LV × LV × LV → LV → LHeap → Prop) (K : LV → LHeap → Prop) (tm : Nat → LV) (g : LHeap) (h : L38_8 (tm 1) (tm 5) (tm 7) (tm 8) (tm 25) (tm 26) g (fun s g => R8 ((tm 1), (tm 5), (tm 7), (tm 8), (tm 25)) s g) K) : codeL Try.prog (Ok Try.prog) (nd38 [1, 0, 1, 0, 1, 0, 1, 1, 0, 1, 0, 0]) ⟨tm, g⟩ (roundK (fun tm : Nat → LV => (tm 1, tm 5, tm 7, tm 8, tm 25)) (fun tm : Nat → LV => tm 26) R8 (exitL 1 (thenL (kj38_6  K) (exitL 0 (thenL (kj38_1  K) (en38 K)))))) := by
  try unfold L38_8 at h
  unfold kj38_6
  generalize @J38_6 = Q38_6 at h ⊢
  unfold kj38_1
  generalize @J38_1 = Q38_1 at h ⊢
  refine code2_sound ok_mono _ _ _ ?_
  refine kmp ?_ h
  generalize Ok Try.prog = C
  try unfold en38
  as_aux_lemma => kernel_rfl

noncomputable def J38_7 (x1 x5 x7 x8 x25 x26 : LV) (g : LHeap)  (K : LV → LHeap → Prop) : Prop :=
  loopP (fun s g N => L38_8 x1 x5 x7 x8 x25 s g N  K) x26 g
abbrev kj38_7  (K : LV → LHeap → Prop) : LSt → Prop := fun st => J38_7 (st.tm 1) (st.tm 5) (st.tm 7) (st.tm 8) (st.tm 25) (st.tm 26) st.g  K
theorem J38_7_ok  (K : LV → LHeap → Prop) (tm : Nat → LV) (g : LHeap) (h : J38_7 (tm 1) (tm 5) (tm 7) (tm 8) (tm 25) (tm 26) g  K) : codeL Try.prog (Ok Try.prog) (nd38 [1, 0, 1, 0, 1, 0, 1, 1, 0, 1]) ⟨tm, g⟩ (thenL (kj38_6  K) (exitL 0 (thenL (kj38_1  K) (en38 K)))) := by
  refine block_i (b := nd38 [1, 0, 1, 0, 1, 0, 1, 1, 0, 1, 0]) (i := 1) (by kernel_rfl) ?_
  exact loop_glue (b := nd38 [1, 0, 1, 0, 1, 0, 1, 1, 0, 1, 0, 0]) (by kernel_rfl) (fun tm : Nat → LV => (tm 1, tm 5, tm 7, tm 8, tm 25)) (fun tm : Nat → LV => tm 26) (fun a s g N => L38_8 a.1 a.2.1 a.2.2.1 a.2.2.2.1 a.2.2.2.2 s g N  K) (fun tm g R h => L38_8_ok R  K tm g h) tm g h

noncomputable def J38_5 (x1 x5 x7 x8 : LV) (g : LHeap)  (K : LV → LHeap → Prop) : Prop :=
  oK (builtinL Try.prog .len [30] [x7] g) fun t25 g =>
  J38_7 x1 x5 x7 x8 t25 (.int .i64 (0)) g  K
abbrev kj38_5  (K : LV → LHeap → Prop) : LSt → Prop := fun st => J38_5 (st.tm 1) (st.tm 5) (st.tm 7) (st.tm 8) st.g  K
theorem J38_5_ok  (K : LV → LHeap → Prop) (tm : Nat → LV) (g : LHeap) (h : J38_5 (tm 1) (tm 5) (tm 7) (tm 8) g  K) : codeL Try.prog (Ok Try.prog) (nd38 [1, 0, 1, 0, 1, 0, 1, 1]) ⟨tm, g⟩ (exitL 0 (thenL (kj38_1  K) (en38 K))) := by
  refine seq_i (a := nd38 [1, 0, 1, 0, 1, 0, 1, 1, 0]) (b := nd38 [1, 0, 1, 0, 1, 0, 1, 1, 1]) (k' := kj38_6  K) (by kernel_rfl) (fun st h => J38_6_ok  K st.tm st.g h) ?_
  refine seq_i (a := nd38 [1, 0, 1, 0, 1, 0, 1, 1, 0, 0]) (b := nd38 [1, 0, 1, 0, 1, 0, 1, 1, 0, 1]) (k' := kj38_7  K) (by kernel_rfl) (fun st h => J38_7_ok  K st.tm st.g h) ?_
  try unfold J38_5 at h
  unfold kj38_7
  generalize @J38_7 = Q38_7 at h ⊢
  unfold kj38_6
  generalize @J38_6 = Q38_6 at h ⊢
  unfold kj38_1
  generalize @J38_1 = Q38_1 at h ⊢
  refine code2_sound ok_mono _ _ _ ?_
  refine kmp ?_ h
  generalize Ok Try.prog = C
  try unfold en38
  as_aux_lemma => kernel_rfl

noncomputable def J38_4 (x0 x1 x5 x7 : LV) (g : LHeap)  (K : LV → LHeap → Prop) : Prop :=
  vK (fieldAddrL 1 x5) fun t20 =>
  vK (loadV none t20 g) fun t21 =>
  Ok Try.prog 14 [x0, t21, x7] g fun t23 g =>
  J38_5 x1 x5 x7 t23 g  K
abbrev kj38_4  (K : LV → LHeap → Prop) : LSt → Prop := fun st => J38_4 (st.tm 0) (st.tm 1) (st.tm 5) (st.tm 7) st.g  K
theorem J38_4_ok  (K : LV → LHeap → Prop) (tm : Nat → LV) (g : LHeap) (h : J38_4 (tm 0) (tm 1) (tm 5) (tm 7) g  K) : codeL Try.prog (Ok Try.prog) (nd38 [1, 0, 1, 0, 1, 0, 1]) ⟨tm, g⟩ (exitL 0 (thenL (kj38_1  K) (en38 K))) := by
  refine seq_i (a := nd38 [1, 0, 1, 0, 1, 0, 1, 0]) (b := nd38 [1, 0, 1, 0, 1, 0, 1, 1]) (k' := kj38_5  K) (by kernel_rfl) (fun st h => J38_5_ok  K st.tm st.g h) ?_
  try unfold J38_4 at h
  unfold kj38_5
  generalize @J38_5 = Q38_5 at h ⊢
  unfold kj38_1
  generalize @J38_1 = Q38_1 at h ⊢
  refine code2_sound ok_mono _ _ _ ?_
  refine kmp ?_ h
  generalize Ok Try.prog = C
  try unfold en38
  as_aux_lemma => kernel_rfl

noncomputable def J38_3 (x0 x1 x5 x12 x13 : LV) (g : LHeap)  (K : LV → LHeap → Prop) : Prop :=
  ifB x13 (
  oK (buildSliceL Try.prog 30 0 [] g) fun t15 g =>
  vK (fieldAddrL 2 x5) fun t16 =>
  vK (loadV none t16 g) fun t17 =>
  oK (builtinL Try.prog .append [30, 30] [t15, t17] g) fun t18 g =>
  J38_4 x0 x1 x5 t18 g  K) (
  vK (binL Try.prog .eql 3 true x12 (.int .i64 (1))) fun t47 =>
  ifB t47 (
  vK (fieldAddrL 3 x5) fun t49 =>
  vK (loadV (some 3) t49 g) fun t50 =>
  vK (fieldAddrL 9 x5) fun t51 =>
  vK (loadV none t51 g) fun t52 =>
  vK (fieldAddrL 3 x5) fun t55 =>
  vK (loadV (some 3) t55 g) fun t56 =>
  vK (fieldAddrL 9 x5) fun t57 =>
  vK (loadV none t57 g) fun t58 =>
  ((Ok Try.prog 15 [x0, t50, t52] g fun t53 g =>
  ((loadV none t57 g) = some t58 ∧ ((loadV (some 3) t55 g) = some t56 ∧ 
  ((Ok Try.prog 62 [x1, t56, t58] g fun t59 g =>
  
  ((Ok Try.prog 16 [t53, t59] g fun t60 g =>
  
  K t60 g) ∧ True)) ∧ True)))) ∧ True)) (
  vK (binL Try.prog .eql 3 true x12 (.int .i64 (2))) fun t62 =>
  ifB t62 (
  vK (fieldAddrL 1 x5) fun t64 =>
  vK (loadV none t64 g) fun t65 =>
  vK (fieldAddrL 1 x5) fun t68 =>
  vK (loadV none t68 g) fun t69 =>
  ((Ok Try.prog 26 [x0, t65] g fun t66 g =>
  ((loadV none t68 g) = some t69 ∧ 
  ((Ok Try.prog 63 [x1, t69] g fun t70 g =>
  
  vK (binL Try.prog .eql 4 false t66 t70) fun t71 =>
  K t71 g) ∧ True))) ∧ True)) (
  vK (binL Try.prog .eql 3 true x12 (.int .i64 (3))) fun t73 =>
  ifB t73 (
  vK (fieldAddrL 3 x5) fun t75 =>
  vK (loadV (some 3) t75 g) fun t76 =>
  vK (fieldAddrL 6 x5) fun t77 =>
  vK (loadV (some 3) t77 g) fun t78 =>
  vK (fieldAddrL 9 x5) fun t79 =>
  vK (loadV none t79 g) fun t80 =>
  vK (fieldAddrL 3 x5) fun t83 =>
  vK (loadV (some 3) t83 g) fun t84 =>
  vK (fieldAddrL 6 x5) fun t85 =>
  vK (loadV (some 3) t85 g) fun t86 =>
  vK (fieldAddrL 9 x5) fun t87 =>
  vK (loadV none t87 g) fun t88 =>
  ((Ok Try.prog 27 [x0, t76, t78, t80] g fun t81 g =>
  ((loadV none t87 g) = some t88 ∧ ((loadV (some 3) t85 g) = some t86 ∧ ((loadV (some 3) t83 g) = some t84 ∧ 
  ((Ok Try.prog 64 [x1, t84, t86, t88] g fun t89 g =>
  
  vK (binL Try.prog .eql 3 false t81 t89) fun t90 =>
  K t90 g) ∧ True))))) ∧ True)) (
  J38_1 x0 x1 x5 g  K))))
abbrev kj38_3  (K : LV → LHeap → Prop) : LSt → Prop := fun st => J38_3 (st.tm 0) (st.tm 1) (st.tm 5) (st.tm 12) (st.tm 13) st.g  K
theorem J38_3_ok  (K : LV → LHeap → Prop) (tm : Nat → LV) (g : LHeap) (h : J38_3 (tm 0) (tm 1) (tm 5) (tm 12) (tm 13) g  K) : codeL Try.prog (Ok Try.prog) (nd38 [1, 0, 1, 0, 1]) ⟨tm, g⟩ (exitL 0 (thenL (kj38_1  K) (en38 K))) := by
  refine cond_i (a := nd38 [1, 0, 1, 0, 1, 0]) (b := nd38 [1, 0, 1, 0, 1, 1]) (by kernel_rfl) h (fun h => ?_) (fun h => ?_)
  refine seq_i (a := nd38 [1, 0, 1, 0, 1, 0, 0]) (b := nd38 [1, 0, 1, 0, 1, 0, 1]) (k' := kj38_4  K) (by kernel_rfl) (fun st h => J38_4_ok  K st.tm st.g h) ?_
  try unfold J38_3 at h
  unfold kj38_4
  generalize @J38_4 = Q38_4 at h ⊢
  unfold kj38_1
  generalize @J38_1 = Q38_1 at h ⊢
  refine code2_sound ok_mono _ _ _ ?_
  refine kmp ?_ h
  generalize Ok Try.prog = C
  try unfold en38
  as_aux_lemma => kernel_rfl
  try unfold J38_3 at h
  unfold kj38_1
  generalize @J38_1 = Q38_1 at h ⊢
  refine code3_sound ok_mono (pl := [(12, (.lt 0 false (.lt 1 false (.lt 2 false (.lt 3 false (.lt 4 false (.lt 6 false (.lt 7 false (.lt 8 true (.lt 9 false (.lt 10 true (.hv 5 (.hv 11 (.hv 12 (.lt 13 false .nil) .nil) .nil) .nil)))))))))))), (16, (.lt 0 false (.lt 1 false (.lt 2 false (.lt 3 false (.lt 4 false (.lt 5 false (.lt 6 false (.lt 8 false (.lt 9 false (.lt 10 true (.lt 11 false (.lt 12 true (.lt 13 false (.lt 14 true (.hv 7 (.hv 15 (.lt 16 false (.lt 17 false .nil)) .nil) .nil))))))))))))))))]) _ _ _ (by kernel_rfl) ?_
  refine kmp ?_ h
  generalize Ok Try.prog = C
  try unfold en38
  as_aux_lemma => kernel_rfl

noncomputable def J38_2 (x0 x1 x5 x12 : LV) (g : LHeap)  (K : LV → LHeap → Prop) : Prop :=
  vK (binL Try.prog .eql 3 true x12 (.int .i64 (0))) fun t14 =>
  J38_3 x0 x1 x5 x12 t14 g  K
abbrev kj38_2  (K : LV → LHeap → Prop) : LSt → Prop := fun st => J38_2 (st.tm 0) (st.tm 1) (st.tm 5) (st.tm 12) st.g  K
theorem J38_2_ok  (K : LV → LHeap → Prop) (tm : Nat → LV) (g : LHeap) (h : J38_2 (tm 0) (tm 1) (tm 5) (tm 12) g  K) : codeL Try.prog (Ok Try.prog) (nd38 [1, 0, 1]) ⟨tm, g⟩ (thenL (kj38_1  K) (en38 K)) := by
  refine block_i (b := nd38 [1, 0, 1, 0]) (i := 0) (by kernel_rfl) ?_
  refine seq_i (a := nd38 [1, 0, 1, 0, 0]) (b := nd38 [1, 0, 1, 0, 1]) (k' := kj38_3  K) (by kernel_rfl) (fun st h => J38_3_ok  K st.tm st.g h) ?_
  try unfold J38_2 at h
  unfold kj38_3
  generalize @J38_3 = Q38_3 at h ⊢
  unfold kj38_1
  generalize @J38_1 = Q38_1 at h ⊢
  refine code2_sound ok_mono _ _ _ ?_
  refine kmp ?_ h
  generalize Ok Try.prog = C
  try unfold en38
  as_aux_lemma => kernel_rfl

noncomputable def J38_0 (x0 x1 x5 : LV) (g : LHeap)  (K : LV → LHeap → Prop) : Prop :=
  vK (fieldAddrL 0 x5) fun t11 =>
  vK (loadV none t11 g) fun t12 =>
  J38_2 x0 x1 x5 t12 g  K
abbrev kj38_0  (K : LV → LHeap → Prop) : LSt → Prop := fun st => J38_0 (st.tm 0) (st.tm 1) (st.tm 5) st.g  K
theorem J38_0_ok  (K : LV → LHeap → Prop) (tm : Nat → LV) (g : LHeap) (h : J38_0 (tm 0) (tm 1) (tm 5) g  K) : codeL Try.prog (Ok Try.prog) (nd38 [1]) ⟨tm, g⟩ (en38 K) := by
  refine seq_i (a := nd38 [1, 0]) (b := nd38 [1, 1]) (k' := kj38_1  K) (by kernel_rfl) (fun st h => J38_1_ok  K st.tm st.g h) ?_
  refine seq_i (a := nd38 [1, 0, 0]) (b := nd38 [1, 0, 1]) (k' := kj38_2  K) (by kernel_rfl) (fun st h => J38_2_ok  K st.tm st.g h) ?_
  try unfold J38_0 at h
  unfold kj38_2
  generalize @J38_2 = Q38_2 at h ⊢
  unfold kj38_1
  generalize @J38_1 = Q38_1 at h ⊢
  refine code2_sound ok_mono _ _ _ ?_
  refine kmp ?_ h
  generalize Ok Try.prog = C
  try unfold en38
  as_aux_lemma => kernel_rfl

noncomputable def F38 (x0 x1 x2 : LV) (g : LHeap) (K : LV → LHeap → Prop) : Prop :=
  oK (newL x2 g) fun t5 g =>
  J38_0 x0 x1 t5 g  K
theorem ok38 {x0 x1 x2 : LV} {g : LHeap} {K : LV → LHeap → Prop} (h : g.Wf → (∀ v ∈ ([x0, x1, x2] : List LV), ∀ b ∈ v.objs, b < g.next) → F38 x0 x1 x2 g K) : Ok Try.prog 38 [x0, x1, x2] g K := by
  refine ok_fw Try.mixed Try.func38 (by kernel_rfl) (by kernel_rfl) (c := nd38 []) (by kernel_rfl) fun wf lt => ?_
  rw [← en38_eq]
  replace h := h wf lt
  generalize hs : startL _ = tm
  replace h : F38 (tm 0) (tm 1) (tm 2) g K := by rw [← hs]; exact h
  refine seq_i (a := nd38 [0]) (b := nd38 [1]) (k' := kj38_0  K) (by kernel_rfl) (fun st h => J38_0_ok  K st.tm st.g h) ?_
  try unfold F38 at h
  unfold kj38_0
  generalize @J38_0 = Q38_0 at h ⊢
  refine code2_sound ok_mono _ _ _ ?_
  refine kmp ?_ h
  generalize Ok Try.prog = C
  try unfold en38
  as_aux_lemma => kernel_rfl

/-! (*parapet/parapetref12.Queue).Sleep (84 slots) -/
noncomputable def en61 (K : LV → LHeap → Prop) : LEx → LSt → Prop := fun e st => match e with
  | .exit _ => False
  | _ => K (st.tm 6) st.g
theorem en61_eq (K : LV → LHeap → Prop) : en61 K = endL Try.prog Try.f61 K := by
  funext e st
  cases e <;> kernel_rfl
noncomputable def nd61 (p : List Nat) : Code := subC p (bodyC Try.prog 61)
noncomputable def J61_6 (g : LHeap)  (K : LV → LHeap → Prop) : Prop :=
  K (.int .i64 (0)) g
abbrev kj61_6  (K : LV → LHeap → Prop) : LSt → Prop := fun st => J61_6  st.g  K
theorem J61_6_ok  (K : LV → LHeap → Prop) (tm : Nat → LV) (g : LHeap) (h : J61_6  g  K) : codeL Try.prog (Ok Try.prog) (nd61 [1, 1, 1, 1, 1, 1, 1]) ⟨tm, g⟩ (en61 K) := by
  try unfold J61_6 at h
  refine code2_sound ok_mono _ _ _ ?_
  refine kmp ?_ h
  generalize Ok Try.prog = C
  try unfold en61
  as_aux_lemma => kernel_rfl

noncomputable def L61_8 (x0 x1 x63 x64 : LV) (x65 : LV) (g : LHeap) (N8 : LV → LHeap → Prop) (K : LV → LHeap → Prop) : Prop :=
  vK (binL Try.prog .lss 3 false x65 x64) fun t66 =>
  ifB t66 (
  vK (ixAddrL none 3 x63 x65) fun t68 =>
  vK (loadV (some 3) t68 g) fun t69 =>
  oK (newL (.agg [(.int .i64 (0)), (.int .i64 (0)), (.int .i64 (0))]) g) fun t12 g =>
  gK (storeV 3 t12 t69 g) fun g =>
  vK (nilCheckL x0) fun t72 =>
  vK (fieldAddrL 0 t72) fun t73 =>
  vK (loadV none t73 g) fun t74 =>
  vK (loadV (some 3) t12 g) fun t76 =>
  vK (buildL Try.prog 78 [(0, x1), (1, t76), (2, x65)]) fun t78 =>
  ((oK (buildSliceL Try.prog 73 1 [(0, t78)] g) fun t79 g =>
  ((loadV none t73 g) = some t74 ∧ 
  ((oK (builtinL Try.prog .append [73, 73] [t74, t79] g) fun t80 g =>
  
  vK (nilCheckL x0) fun t81 =>
  vK (fieldAddrL 0 t81) fun t82 =>
  ((gK (storeV 1 t82 t80 g) fun g =>
  
  vK (binL Try.prog .add 3 true x65 (.int .i64 (1))) fun t83 =>
  N8 t83 g) ∧ True)) ∧ True))) ∧ True)) (
  J61_6  g  K)
theorem L61_8_ok (R8 : LV × LV × LV × LV → LV → LHeap → Prop) (K : LV → LHeap → Prop) (tm : Nat → LV) (g : LHeap) (h : L61_8 (tm 0) (tm 1) (tm 63) (tm 64) (tm 65) g (fun s g => R8 ((tm 0), (tm 1), (tm 63), (tm 64)) s g) K) : codeL Try.prog (Ok Try.prog) (nd61 [1, 1, 1, 1, 1, 1, 0, 1, 0, 0]) ⟨tm, g⟩ (roundK (fun tm : Nat → LV => (tm 0, tm 1, tm 63, tm 64)) (fun tm : Nat → LV => tm 65) R8 (exitL 4 (thenL (kj61_6  K) (en61 K)))) := by
  try unfold L61_8 at h
  unfold kj61_6
  generalize @J61_6 = Q61_6 at h ⊢
  refine code3_sound ok_mono (pl := [(21, (.lt 0 false (.lt 1 false (.lt 2 false (.lt 3 false (.lt 4 true (.lt 5 false (.lt 6 false (.lt 7 false (.lt 8 false (.hv 9 (.hv 10 (.lt 11 false (.lt 12 false (.hv 13 .nil .nil))) .nil) .nil)))))))))))]) _ _ _ (by kernel_rfl) ?_
  refine kmp ?_ h
  generalize Ok Try.prog = C
  try unfold en61
  as_aux_lemma => kernel_rfl

noncomputable def J61_7 (x0 x1 x63 x64 x65 : LV) (g : LHeap)  (K : LV → LHeap → Prop) : Prop :=
  loopP (fun s g N => L61_8 x0 x1 x63 x64 s g N  K) x65 g
abbrev kj61_7  (K : LV → LHeap → Prop) : LSt → Prop := fun st => J61_7 (st.tm 0) (st.tm 1) (st.tm 63) (st.tm 64) (st.tm 65) st.g  K
theorem J61_7_ok  (K : LV → LHeap → Prop) (tm : Nat → LV) (g : LHeap) (h : J61_7 (tm 0) (tm 1) (tm 63) (tm 64) (tm 65) g  K) : codeL Try.prog (Ok Try.prog) (nd61 [1, 1, 1, 1, 1, 1, 0, 1]) ⟨tm, g⟩ (thenL (kj61_6  K) (en61 K)) := by
  refine block_i (b := nd61 [1, 1, 1, 1, 1, 1, 0, 1, 0]) (i := 4) (by kernel_rfl) ?_
  exact loop_glue (b := nd61 [1, 1, 1, 1, 1, 1, 0, 1, 0, 0]) (by kernel_rfl) (fun tm : Nat → LV => (tm 0, tm 1, tm 63, tm 64)) (fun tm : Nat → LV => tm 65) (fun a s g N => L61_8 a.1 a.2.1 a.2.2.1 a.2.2.2 s g N  K) (fun tm g R h => L61_8_ok R  K tm g h) tm g h

noncomputable def J61_5 (x0 x1 x2 : LV) (g : LHeap)  (K : LV → LHeap → Prop) : Prop :=
  oK (builtinL Try.prog .len [30] [x2] g) fun t64 g =>
  J61_7 x0 x1 x2 t64 (.int .i64 (0)) g  K
abbrev kj61_5  (K : LV → LHeap → Prop) : LSt → Prop := fun st => J61_5 (st.tm 0) (st.tm 1) (st.tm 2) st.g  K
theorem J61_5_ok  (K : LV → LHeap → Prop) (tm : Nat → LV) (g : LHeap) (h : J61_5 (tm 0) (tm 1) (tm 2) g  K) : codeL Try.prog (Ok Try.prog) (nd61 [1, 1, 1, 1, 1, 1]) ⟨tm, g⟩ (en61 K) := by
  refine seq_i (a := nd61 [1, 1, 1, 1, 1, 1, 0]) (b := nd61 [1, 1, 1, 1, 1, 1, 1]) (k' := kj61_6  K) (by kernel_rfl) (fun st h => J61_6_ok  K st.tm st.g h) ?_
  refine seq_i (a := nd61 [1, 1, 1, 1, 1, 1, 0, 0]) (b := nd61 [1, 1, 1, 1, 1, 1, 0, 1]) (k' := kj61_7  K) (by kernel_rfl) (fun st h => J61_7_ok  K st.tm st.g h) ?_
  try unfold J61_5 at h
  unfold kj61_7
  generalize @J61_7 = Q61_7 at h ⊢
  unfold kj61_6
  generalize @J61_6 = Q61_6 at h ⊢
  refine code2_sound ok_mono _ _ _ ?_
  refine kmp ?_ h
  generalize Ok Try.prog = C
  try unfold en61
  as_aux_lemma => kernel_rfl

noncomputable def J61_4 (x0 x1 x2 : LV) (g : LHeap)  (K : LV → LHeap → Prop) : Prop :=
  oK (buildSliceL Try.prog 73 0 [] g) fun t55 g =>
  vK (nilCheckL x0) fun t57 =>
  vK (fieldAddrL 0 t57) fun t58 =>
  vK (loadV none t58 g) fun t59 =>
  oK (builtinL Try.prog .append [73, 73] [t55, t59] g) fun t60 g =>
  vK (nilCheckL x0) fun t61 =>
  vK (fieldAddrL 0 t61) fun t62 =>
  gK (storeV 1 t62 t60 g) fun g =>
  J61_5 x0 x1 x2 g  K
abbrev kj61_4  (K : LV → LHeap → Prop) : LSt → Prop := fun st => J61_4 (st.tm 0) (st.tm 1) (st.tm 2) st.g  K
theorem J61_4_ok  (K : LV → LHeap → Prop) (tm : Nat → LV) (g : LHeap) (h : J61_4 (tm 0) (tm 1) (tm 2) g  K) : codeL Try.prog (Ok Try.prog) (nd61 [1, 1, 1, 1, 1]) ⟨tm, g⟩ (en61 K) := by
  refine seq_i (a := nd61 [1, 1, 1, 1, 1, 0]) (b := nd61 [1, 1, 1, 1, 1, 1]) (k' := kj61_5  K) (by kernel_rfl) (fun st h => J61_5_ok  K st.tm st.g h) ?_
  try unfold J61_4 at h
  unfold kj61_5
  generalize @J61_5 = Q61_5 at h ⊢
  refine code2_sound ok_mono _ _ _ ?_
  refine kmp ?_ h
  generalize Ok Try.prog = C
  try unfold en61
  as_aux_lemma => kernel_rfl

noncomputable def J61_3 (x0 x1 x2 : LV) (g : LHeap)  (K : LV → LHeap → Prop) : Prop :=
  Ok Try.prog 65 [x0] g fun t51 g =>
  oK (builtinL Try.prog .len [24] [t51] g) fun t52 g =>
  vK (binL Try.prog .geq 3 true t52 (.int .i64 (64))) fun t53 =>
  ifB t53 (
  K (.int .i64 (2)) g) (
  J61_4 x0 x1 x2 g  K)
abbrev kj61_3  (K : LV → LHeap → Prop) : LSt → Prop := fun st => J61_3 (st.tm 0) (st.tm 1) (st.tm 2) st.g  K
theorem J61_3_ok  (K : LV → LHeap → Prop) (tm : Nat → LV) (g : LHeap) (h : J61_3 (tm 0) (tm 1) (tm 2) g  K) : codeL Try.prog (Ok Try.prog) (nd61 [1, 1, 1, 1]) ⟨tm, g⟩ (en61 K) := by
  refine seq_i (a := nd61 [1, 1, 1, 1, 0]) (b := nd61 [1, 1, 1, 1, 1]) (k' := kj61_4  K) (by kernel_rfl) (fun st h => J61_4_ok  K st.tm st.g h) ?_
  try unfold J61_3 at h
  unfold kj61_4
  generalize @J61_4 = Q61_4 at h ⊢
  refine code2_sound ok_mono _ _ _ ?_
  refine kmp ?_ h
  generalize Ok Try.prog = C
  try unfold en61
  as_aux_lemma => kernel_rfl

noncomputable def J61_2 (x0 x1 x2 : LV) (g : LHeap)  (K : LV → LHeap → Prop) : Prop :=
  Ok Try.prog 68 [x0, x1] g fun t47 g =>
  oK (builtinL Try.prog .len [30] [t47] g) fun t48 g =>
  vK (binL Try.prog .gtr 3 true t48 (.int .i64 (0))) fun t49 =>
  ifB t49 (
  K (.int .i64 (101)) g) (
  J61_3 x0 x1 x2 g  K)
abbrev kj61_2  (K : LV → LHeap → Prop) : LSt → Prop := fun st => J61_2 (st.tm 0) (st.tm 1) (st.tm 2) st.g  K
theorem J61_2_ok  (K : LV → LHeap → Prop) (tm : Nat → LV) (g : LHeap) (h : J61_2 (tm 0) (tm 1) (tm 2) g  K) : codeL Try.prog (Ok Try.prog) (nd61 [1, 1, 1]) ⟨tm, g⟩ (en61 K) := by
  refine seq_i (a := nd61 [1, 1, 1, 0]) (b := nd61 [1, 1, 1, 1]) (k' := kj61_3  K) (by kernel_rfl) (fun st h => J61_3_ok  K st.tm st.g h) ?_
  try unfold J61_2 at h
  unfold kj61_3
  generalize @J61_3 = Q61_3 at h ⊢
  refine code2_sound ok_mono _ _ _ ?_
  refine kmp ?_ h
  generalize Ok Try.prog = C
  try unfold en61
  as_aux_lemma => kernel_rfl

noncomputable def J61_13 (x0 x1 x2 x25 x26 x27 : LV) (g : LHeap) (N10 : LV → LHeap → Prop) (K : LV → LHeap → Prop) : Prop :=
  vK (binL Try.prog .add 3 true x27 (.int .i64 (1))) fun t44 =>
  N10 t44 g
abbrev kj61_13 (R10 : LV × LV × LV × LV × LV → LV → LHeap → Prop) (K : LV → LHeap → Prop) : LSt → Prop := fun st => J61_13 (st.tm 0) (st.tm 1) (st.tm 2) (st.tm 25) (st.tm 26) (st.tm 27) st.g (fun s g => R10 ((st.tm 0), (st.tm 1), (st.tm 2), (st.tm 25), (st.tm 26)) s g) K
theorem J61_13_ok (R10 : LV × LV × LV × LV × LV → LV → LHeap → Prop) (K : LV → LHeap → Prop) (tm : Nat → LV) (g : LHeap) (h : J61_13 (tm 0) (tm 1) (tm 2) (tm 25) (tm 26) (tm 27) g (fun s g => R10 ((tm 0), (tm 1), (tm 2), (tm 25), (tm 26)) s g) K) : codeL Try.prog (Ok Try.prog) (nd61 [1, 1, 0, 1, 0, 0, 1, 1, 1]) ⟨tm, g⟩ (roundK (fun tm : Nat → LV => (tm 0, tm 1, tm 2, tm 25, tm 26)) (fun tm : Nat → LV => tm 27) R10 (exitL 0 (thenL (kj61_2  K) (en61 K)))) := by
  try unfold J61_13 at h
  unfold kj61_2
  generalize @J61_2 = Q61_2 at h ⊢
  refine code2_sound ok_mono _ _ _ ?_
  refine kmp ?_ h
  generalize Ok Try.prog = C
  try unfold en61
  as_aux_lemma => kernel_rfl

noncomputable def L61_16 (x0 x1 x2 x8 x25 x26 x27 x34 x35 : LV) (x36 : LV) (g : LHeap) (N16 : LV → LHeap → Prop) (N10 : LV → LHeap → Prop) (K : LV → LHeap → Prop) : Prop :=
  vK (binL Try.prog .lss 3 false x36 x35) fun t37 =>
  ifB t37 (
  vK (ixAddrL none 3 x34 x36) fun t38 =>
  vK (loadV (some 3) t38 g) fun t39 =>
  oK (newL (.agg [(.int .i64 (0)), (.int .i64 (0)), (.int .i64 (0))]) g) fun t10 g =>
  gK (storeV 3 t10 t39 g) fun g =>
  vK (loadV (some 3) x8 g) fun t40 =>
  vK (loadV (some 3) t10 g) fun t41 =>
  vK (binL Try.prog .eql 23 false t40 t41) fun t42 =>
  ifB t42 (
  K (.int .i64 (1)) g) (
  vK (binL Try.prog .add 3 true x36 (.int .i64 (1))) fun t43 =>
  N16 t43 g)) (
  J61_13 x0 x1 x2 x25 x26 x27 g N10 K)
theorem L61_16_ok (R16 : LV × LV × LV × LV × LV × LV × LV × LV × LV → LV → LHeap → Prop) (R10 : LV × LV × LV × LV × LV → LV → LHeap → Prop) (K : LV → LHeap → Prop) (tm : Nat → LV) (g : LHeap) (h : L61_16 (tm 0) (tm 1) (tm 2) (tm 8) (tm 25) (tm 26) (tm 27) (tm 34) (tm 35) (tm 36) g (fun s g => R16 ((tm 0), (tm 1), (tm 2), (tm 8), (tm 25), (tm 26), (tm 27), (tm 34), (tm 35)) s g) (fun s g => R10 ((tm 0), (tm 1), (tm 2), (tm 25), (tm 26)) s g) K) : codeL Try.prog (Ok Try.prog) (nd61 [1, 1, 0, 1, 0, 0, 1, 1, 0, 0, 1, 1, 0, 0]) ⟨tm, g⟩ (roundK (fun tm : Nat → LV => (tm 0, tm 1, tm 2, tm 8, tm 25, tm 26, tm 27, tm 34, tm 35)) (fun tm : Nat → LV => tm 36) R16 (exitL 2 (exitL 1 (thenL (kj61_13 R10 K) (roundK (fun tm : Nat → LV => (tm 0, tm 1, tm 2, tm 25, tm 26)) (fun tm : Nat → LV => tm 27) R10 (exitL 0 (thenL (kj61_2  K) (en61 K)))))))) := by
  try unfold L61_16 at h
  unfold kj61_13
  generalize @J61_13 = Q61_13 at h ⊢
  unfold kj61_2
  generalize @J61_2 = Q61_2 at h ⊢
  refine code2_sound ok_mono _ _ _ ?_
  refine kmp ?_ h
  generalize Ok Try.prog = C
  try unfold en61
  as_aux_lemma => kernel_rfl

noncomputable def J61_15 (x0 x1 x2 x8 x25 x26 x27 x34 x35 x36 : LV) (g : LHeap) (N10 : LV → LHeap → Prop) (K : LV → LHeap → Prop) : Prop :=
  loopP (fun s g N => L61_16 x0 x1 x2 x8 x25 x26 x27 x34 x35 s g N N10 K) x36 g
abbrev kj61_15 (R10 : LV × LV × LV × LV × LV → LV → LHeap → Prop) (K : LV → LHeap → Prop) : LSt → Prop := fun st => J61_15 (st.tm 0) (st.tm 1) (st.tm 2) (st.tm 8) (st.tm 25) (st.tm 26) (st.tm 27) (st.tm 34) (st.tm 35) (st.tm 36) st.g (fun s g => R10 ((st.tm 0), (st.tm 1), (st.tm 2), (st.tm 25), (st.tm 26)) s g) K
theorem J61_15_ok (R10 : LV × LV × LV × LV × LV → LV → LHeap → Prop) (K : LV → LHeap → Prop) (tm : Nat → LV) (g : LHeap) (h : J61_15 (tm 0) (tm 1) (tm 2) (tm 8) (tm 25) (tm 26) (tm 27) (tm 34) (tm 35) (tm 36) g (fun s g => R10 ((tm 0), (tm 1), (tm 2), (tm 25), (tm 26)) s g) K) : codeL Try.prog (Ok Try.prog) (nd61 [1, 1, 0, 1, 0, 0, 1, 1, 0, 0, 1, 1]) ⟨tm, g⟩ (exitL 1 (thenL (kj61_13 R10 K) (roundK (fun tm : Nat → LV => (tm 0, tm 1, tm 2, tm 25, tm 26)) (fun tm : Nat → LV => tm 27) R10 (exitL 0 (thenL (kj61_2  K) (en61 K)))))) := by
  refine block_i (b := nd61 [1, 1, 0, 1, 0, 0, 1, 1, 0, 0, 1, 1, 0]) (i := 2) (by kernel_rfl) ?_
  exact loop_glue (b := nd61 [1, 1, 0, 1, 0, 0, 1, 1, 0, 0, 1, 1, 0, 0]) (by kernel_rfl) (fun tm : Nat → LV => (tm 0, tm 1, tm 2, tm 8, tm 25, tm 26, tm 27, tm 34, tm 35)) (fun tm : Nat → LV => tm 36) (fun a s g N => L61_16 a.1 a.2.1 a.2.2.1 a.2.2.2.1 a.2.2.2.2.1 a.2.2.2.2.2.1 a.2.2.2.2.2.2.1 a.2.2.2.2.2.2.2.1 a.2.2.2.2.2.2.2.2 s g N (fun s g => R10 ((a.1), (a.2.1), (a.2.2.1), (a.2.2.2.2.1), (a.2.2.2.2.2.1)) s g) K) (fun tm g R h => L61_16_ok R R10 K tm g h) tm g h

noncomputable def J61_14 (x0 x1 x2 x7 x8 x25 x26 x27 : LV) (g : LHeap) (N10 : LV → LHeap → Prop) (K : LV → LHeap → Prop) : Prop :=
  vK (cutT Try.prog 30 x2 none (some x7) none (limL x2 g)) fun t34 =>
  oK (builtinL Try.prog .len [30] [t34] g) fun t35 g =>
  J61_15 x0 x1 x2 x8 x25 x26 x27 t34 t35 (.int .i64 (0)) g N10 K
abbrev kj61_14 (R10 : LV × LV × LV × LV × LV → LV → LHeap → Prop) (K : LV → LHeap → Prop) : LSt → Prop := fun st => J61_14 (st.tm 0) (st.tm 1) (st.tm 2) (st.tm 7) (st.tm 8) (st.tm 25) (st.tm 26) (st.tm 27) st.g (fun s g => R10 ((st.tm 0), (st.tm 1), (st.tm 2), (st.tm 25), (st.tm 26)) s g) K
theorem J61_14_ok (R10 : LV × LV × LV × LV × LV → LV → LHeap → Prop) (K : LV → LHeap → Prop) (tm : Nat → LV) (g : LHeap) (h : J61_14 (tm 0) (tm 1) (tm 2) (tm 7) (tm 8) (tm 25) (tm 26) (tm 27) g (fun s g => R10 ((tm 0), (tm 1), (tm 2), (tm 25), (tm 26)) s g) K) : codeL Try.prog (Ok Try.prog) (nd61 [1, 1, 0, 1, 0, 0, 1, 1, 0, 0, 1]) ⟨tm, g⟩ (exitL 1 (thenL (kj61_13 R10 K) (roundK (fun tm : Nat → LV => (tm 0, tm 1, tm 2, tm 25, tm 26)) (fun tm : Nat → LV => tm 27) R10 (exitL 0 (thenL (kj61_2  K) (en61 K)))))) := by
  refine seq_i (a := nd61 [1, 1, 0, 1, 0, 0, 1, 1, 0, 0, 1, 0]) (b := nd61 [1, 1, 0, 1, 0, 0, 1, 1, 0, 0, 1, 1]) (k' := kj61_15 R10 K) (by kernel_rfl) (fun st h => J61_15_ok R10 K st.tm st.g h) ?_
  try unfold J61_14 at h
  unfold kj61_15
  generalize @J61_15 = Q61_15 at h ⊢
  unfold kj61_13
  generalize @J61_13 = Q61_13 at h ⊢
  unfold kj61_2
  generalize @J61_2 = Q61_2 at h ⊢
  refine code2_sound ok_mono _ _ _ ?_
  refine kmp ?_ h
  generalize Ok Try.prog = C
  try unfold en61
  as_aux_lemma => kernel_rfl

noncomputable def J61_12 (x0 x1 x2 x25 x26 x27 : LV) (g : LHeap) (N10 : LV → LHeap → Prop) (K : LV → LHeap → Prop) : Prop :=
  vK (ixAddrL none 3 x25 x27) fun t30 =>
  vK (loadV (some 3) t30 g) fun t31 =>
  oK (newL (.agg [(.int .i64 (0)), (.int .i64 (0)), (.int .i64 (0))]) g) fun t8 g =>
  gK (storeV 3 t8 t31 g) fun g =>
  J61_14 x0 x1 x2 x27 t8 x25 x26 x27 g N10 K
abbrev kj61_12 (R10 : LV × LV × LV × LV × LV → LV → LHeap → Prop) (K : LV → LHeap → Prop) : LSt → Prop := fun st => J61_12 (st.tm 0) (st.tm 1) (st.tm 2) (st.tm 25) (st.tm 26) (st.tm 27) st.g (fun s g => R10 ((st.tm 0), (st.tm 1), (st.tm 2), (st.tm 25), (st.tm 26)) s g) K
theorem J61_12_ok (R10 : LV × LV × LV × LV × LV → LV → LHeap → Prop) (K : LV → LHeap → Prop) (tm : Nat → LV) (g : LHeap) (h : J61_12 (tm 0) (tm 1) (tm 2) (tm 25) (tm 26) (tm 27) g (fun s g => R10 ((tm 0), (tm 1), (tm 2), (tm 25), (tm 26)) s g) K) : codeL Try.prog (Ok Try.prog) (nd61 [1, 1, 0, 1, 0, 0, 1, 1]) ⟨tm, g⟩ (roundK (fun tm : Nat → LV => (tm 0, tm 1, tm 2, tm 25, tm 26)) (fun tm : Nat → LV => tm 27) R10 (exitL 0 (thenL (kj61_2  K) (en61 K)))) := by
  refine seq_i (a := nd61 [1, 1, 0, 1, 0, 0, 1, 1, 0]) (b := nd61 [1, 1, 0, 1, 0, 0, 1, 1, 1]) (k' := kj61_13 R10 K) (by kernel_rfl) (fun st h => J61_13_ok R10 K st.tm st.g h) ?_
  refine block_i (b := nd61 [1, 1, 0, 1, 0, 0, 1, 1, 0, 0]) (i := 1) (by kernel_rfl) ?_
  refine seq_i (a := nd61 [1, 1, 0, 1, 0, 0, 1, 1, 0, 0, 0]) (b := nd61 [1, 1, 0, 1, 0, 0, 1, 1, 0, 0, 1]) (k' := kj61_14 R10 K) (by kernel_rfl) (fun st h => J61_14_ok R10 K st.tm st.g h) ?_
  try unfold J61_12 at h
  unfold kj61_14
  generalize @J61_14 = Q61_14 at h ⊢
  unfold kj61_13
  generalize @J61_13 = Q61_13 at h ⊢
  unfold kj61_2
  generalize @J61_2 = Q61_2 at h ⊢
  refine code2_sound ok_mono _ _ _ ?_
  refine kmp ?_ h
  generalize Ok Try.prog = C
  try unfold en61
  as_aux_lemma => kernel_rfl

noncomputable def J61_11 (x0 x1 x2 x25 x26 x27 x28 : LV) (g : LHeap) (N10 : LV → LHeap → Prop) (K : LV → LHeap → Prop) : Prop :=
  ifB x28 (
  J61_12 x0 x1 x2 x25 x26 x27 g N10 K) (
  J61_2 x0 x1 x2 g  K)
abbrev kj61_11 (R10 : LV × LV × LV × LV × LV → LV → LHeap → Prop) (K : LV → LHeap → Prop) : LSt → Prop := fun st => J61_11 (st.tm 0) (st.tm 1) (st.tm 2) (st.tm 25) (st.tm 26) (st.tm 27) (st.tm 28) st.g (fun s g => R10 ((st.tm 0), (st.tm 1), (st.tm 2), (st.tm 25), (st.tm 26)) s g) K
theorem J61_11_ok (R10 : LV × LV × LV × LV × LV → LV → LHeap → Prop) (K : LV → LHeap → Prop) (tm : Nat → LV) (g : LHeap) (h : J61_11 (tm 0) (tm 1) (tm 2) (tm 25) (tm 26) (tm 27) (tm 28) g (fun s g => R10 ((tm 0), (tm 1), (tm 2), (tm 25), (tm 26)) s g) K) : codeL Try.prog (Ok Try.prog) (nd61 [1, 1, 0, 1, 0, 0, 1]) ⟨tm, g⟩ (roundK (fun tm : Nat → LV => (tm 0, tm 1, tm 2, tm 25, tm 26)) (fun tm : Nat → LV => tm 27) R10 (exitL 0 (thenL (kj61_2  K) (en61 K)))) := by
  refine seq_i (a := nd61 [1, 1, 0, 1, 0, 0, 1, 0]) (b := nd61 [1, 1, 0, 1, 0, 0, 1, 1]) (k' := kj61_12 R10 K) (by kernel_rfl) (fun st h => J61_12_ok R10 K st.tm st.g h) ?_
  try unfold J61_11 at h
  unfold kj61_12
  generalize @J61_12 = Q61_12 at h ⊢
  unfold kj61_2
  generalize @J61_2 = Q61_2 at h ⊢
  refine code2_sound ok_mono _ _ _ ?_
  refine kmp ?_ h
  generalize Ok Try.prog = C
  try unfold en61
  as_aux_lemma => kernel_rfl

noncomputable def L61_10 (x0 x1 x2 x25 x26 : LV) (x27 : LV) (g : LHeap) (N10 : LV → LHeap → Prop) (K : LV → LHeap → Prop) : Prop :=
  vK (binL Try.prog .lss 3 false x27 x26) fun t28 =>
  J61_11 x0 x1 x2 x25 x26 x27 t28 g N10 K
theorem L61_10_ok (R10 : LV × LV × LV × LV × LV → LV → LHeap → Prop) (K : LV → LHeap → Prop) (tm : Nat → LV) (g : LHeap) (h : L61_10 (tm 0) (tm 1) (tm 2) (tm 25) (tm 26) (tm 27) g (fun s g => R10 ((tm 0), (tm 1), (tm 2), (tm 25), (tm 26)) s g) K) : codeL Try.prog (Ok Try.prog) (nd61 [1, 1, 0, 1, 0, 0]) ⟨tm, g⟩ (roundK (fun tm : Nat → LV => (tm 0, tm 1, tm 2, tm 25, tm 26)) (fun tm : Nat → LV => tm 27) R10 (exitL 0 (thenL (kj61_2  K) (en61 K)))) := by
  refine seq_i (a := nd61 [1, 1, 0, 1, 0, 0, 0]) (b := nd61 [1, 1, 0, 1, 0, 0, 1]) (k' := kj61_11 R10 K) (by kernel_rfl) (fun st h => J61_11_ok R10 K st.tm st.g h) ?_
  try unfold L61_10 at h
  unfold kj61_11
  generalize @J61_11 = Q61_11 at h ⊢
  unfold kj61_2
  generalize @J61_2 = Q61_2 at h ⊢
  refine code2_sound ok_mono _ _ _ ?_
  refine kmp ?_ h
  generalize Ok Try.prog = C
  try unfold en61
  as_aux_lemma => kernel_rfl

noncomputable def J61_9 (x0 x1 x2 x25 x26 x27 : LV) (g : LHeap)  (K : LV → LHeap → Prop) : Prop :=
  loopP (fun s g N => L61_10 x0 x1 x2 x25 x26 s g N  K) x27 g
abbrev kj61_9  (K : LV → LHeap → Prop) : LSt → Prop := fun st => J61_9 (st.tm 0) (st.tm 1) (st.tm 2) (st.tm 25) (st.tm 26) (st.tm 27) st.g  K
theorem J61_9_ok  (K : LV → LHeap → Prop) (tm : Nat → LV) (g : LHeap) (h : J61_9 (tm 0) (tm 1) (tm 2) (tm 25) (tm 26) (tm 27) g  K) : codeL Try.prog (Ok Try.prog) (nd61 [1, 1, 0, 1]) ⟨tm, g⟩ (thenL (kj61_2  K) (en61 K)) := by
  refine block_i (b := nd61 [1, 1, 0, 1, 0]) (i := 0) (by kernel_rfl) ?_
  exact loop_glue (b := nd61 [1, 1, 0, 1, 0, 0]) (by kernel_rfl) (fun tm : Nat → LV => (tm 0, tm 1, tm 2, tm 25, tm 26)) (fun tm : Nat → LV => tm 27) (fun a s g N => L61_10 a.1 a.2.1 a.2.2.1 a.2.2.2.1 a.2.2.2.2 s g N  K) (fun tm g R h => L61_10_ok R  K tm g h) tm g h

noncomputable def J61_1 (x0 x1 x2 : LV) (g : LHeap)  (K : LV → LHeap → Prop) : Prop :=
  oK (builtinL Try.prog .len [30] [x2] g) fun t26 g =>
  J61_9 x0 x1 x2 x2 t26 (.int .i64 (0)) g  K
abbrev kj61_1  (K : LV → LHeap → Prop) : LSt → Prop := fun st => J61_1 (st.tm 0) (st.tm 1) (st.tm 2) st.g  K
theorem J61_1_ok  (K : LV → LHeap → Prop) (tm : Nat → LV) (g : LHeap) (h : J61_1 (tm 0) (tm 1) (tm 2) g  K) : codeL Try.prog (Ok Try.prog) (nd61 [1, 1]) ⟨tm, g⟩ (en61 K) := by
  refine seq_i (a := nd61 [1, 1, 0]) (b := nd61 [1, 1, 1]) (k' := kj61_2  K) (by kernel_rfl) (fun st h => J61_2_ok  K st.tm st.g h) ?_
  refine seq_i (a := nd61 [1, 1, 0, 0]) (b := nd61 [1, 1, 0, 1]) (k' := kj61_9  K) (by kernel_rfl) (fun st h => J61_9_ok  K st.tm st.g h) ?_
  try unfold J61_1 at h
  unfold kj61_9
  generalize @J61_9 = Q61_9 at h ⊢
  unfold kj61_2
  generalize @J61_2 = Q61_2 at h ⊢
  refine code2_sound ok_mono _ _ _ ?_
  refine kmp ?_ h
  generalize Ok Try.prog = C
  try unfold en61
  as_aux_lemma => kernel_rfl

noncomputable def J61_0 (x0 x1 x2 : LV) (g : LHeap)  (K : LV → LHeap → Prop) : Prop :=
  vK (binL Try.prog .lss 3 true x1 (.int .i64 (1))) fun t14 =>
  gd t14 false g (fun K => K x2 g) fun t16 g =>
  gd t14 false g (fun K => oK (builtinL Try.prog .len [30] [t16] g) K) fun t17 g =>
  gd t14 false g (fun K => vK (binL Try.prog .lss 3 true t17 (.int .i64 (1))) fun v => K v g) fun t18 g =>
  vK (pickL t14 (.bool true) t18) fun t19 =>
  gd t19 false g (fun K => K x2 g) fun t21 g =>
  gd t19 false g (fun K => oK (builtinL Try.prog .len [30] [t21] g) K) fun t22 g =>
  gd t19 false g (fun K => vK (binL Try.prog .gtr 3 true t22 (.int .i64 (16))) fun v => K v g) fun t23 g =>
  vK (pickL t19 (.bool true) t23) fun t24 =>
  ifB t24 (
  K (.int .i64 (1)) g) (
  J61_1 x0 x1 x2 g  K)
abbrev kj61_0  (K : LV → LHeap → Prop) : LSt → Prop := fun st => J61_0 (st.tm 0) (st.tm 1) (st.tm 2) st.g  K
theorem J61_0_ok  (K : LV → LHeap → Prop) (tm : Nat → LV) (g : LHeap) (h : J61_0 (tm 0) (tm 1) (tm 2) g  K) : codeL Try.prog (Ok Try.prog) (nd61 [1]) ⟨tm, g⟩ (en61 K) := by
  refine seq_i (a := nd61 [1, 0]) (b := nd61 [1, 1]) (k' := kj61_1  K) (by kernel_rfl) (fun st h => J61_1_ok  K st.tm st.g h) ?_
  try unfold J61_0 at h
  unfold kj61_1
  generalize @J61_1 = Q61_1 at h ⊢
  refine code2_sound ok_mono _ _ _ ?_
  refine kmp ?_ h
  generalize Ok Try.prog = C
  try unfold en61
  as_aux_lemma => kernel_rfl

noncomputable def F61 (x0 x1 x2 : LV) (g : LHeap) (K : LV → LHeap → Prop) : Prop :=
  J61_0 x0 x1 x2 g  K
theorem ok61 {x0 x1 x2 : LV} {g : LHeap} {K : LV → LHeap → Prop} (h : g.Wf → (∀ v ∈ ([x0, x1, x2] : List LV), ∀ b ∈ v.objs, b < g.next) → F61 x0 x1 x2 g K) : Ok Try.prog 61 [x0, x1, x2] g K := by
  refine ok_fw Try.mixed Try.func61 (by kernel_rfl) (by kernel_rfl) (c := nd61 []) (by kernel_rfl) fun wf lt => ?_
  rw [← en61_eq]
  replace h := h wf lt
  generalize hs : startL _ = tm
  replace h : F61 (tm 0) (tm 1) (tm 2) g K := by rw [← hs]; exact h
  refine seq_i (a := nd61 [0]) (b := nd61 [1]) (k' := kj61_0  K) (by kernel_rfl) (fun st h => J61_0_ok  K st.tm st.g h) ?_
  try unfold F61 at h
  unfold kj61_0
  generalize @J61_0 = Q61_0 at h ⊢
  refine code2_sound ok_mono _ _ _ ?_
  refine kmp ?_ h
  generalize Ok Try.prog = C
  try unfold en61
  as_aux_lemma => kernel_rfl

/-! (*parapet/parapetref12.Queue).Wake (40 slots) -/
noncomputable def en62 (K : LV → LHeap → Prop) : LEx → LSt → Prop := fun e st => match e with
  | .exit _ => False
  | _ => K (st.tm 6) st.g
theorem en62_eq (K : LV → LHeap → Prop) : en62 K = endL Try.prog Try.f62 K := by
  funext e st
  cases e <;> kernel_rfl
noncomputable def nd62 (p : List Nat) : Code := subC p (bodyC Try.prog 62)
noncomputable def J62_3 (x7 : LV) (g : LHeap)  (K : LV → LHeap → Prop) : Prop :=
  K x7 g
abbrev kj62_3  (K : LV → LHeap → Prop) : LSt → Prop := fun st => J62_3 (st.tm 7) st.g  K
theorem J62_3_ok  (K : LV → LHeap → Prop) (tm : Nat → LV) (g : LHeap) (h : J62_3 (tm 7) g  K) : codeL Try.prog (Ok Try.prog) (nd62 [1, 1, 1, 1]) ⟨tm, g⟩ (en62 K) := by
  try unfold J62_3 at h
  refine code2_sound ok_mono _ _ _ ?_
  refine kmp ?_ h
  generalize Ok Try.prog = C
  try unfold en62
  as_aux_lemma => kernel_rfl

noncomputable def L62_5 (x0 x7 x29 x30 : LV) (x31 : LV) (g : LHeap) (N5 : LV → LHeap → Prop) (K : LV → LHeap → Prop) : Prop :=
  vK (binL Try.prog .lss 3 false x31 x30) fun t32 =>
  ifB t32 (
  vK (ixAddrL none 1 x29 x31) fun t33 =>
  vK (loadV none t33 g) fun t34 =>
  Ok Try.prog 63 [x0, t34] g fun t37 g =>
  vK (binL Try.prog .add 3 true x31 (.int .i64 (1))) fun t38 =>
  N5 t38 g) (
  J62_3 x7 g  K)
theorem L62_5_ok (R5 : LV × LV × LV × LV → LV → LHeap → Prop) (K : LV → LHeap → Prop) (tm : Nat → LV) (g : LHeap) (h : L62_5 (tm 0) (tm 7) (tm 29) (tm 30) (tm 31) g (fun s g => R5 ((tm 0), (tm 7), (tm 29), (tm 30)) s g) K) : codeL Try.prog (Ok Try.prog) (nd62 [1, 1, 1, 0, 1, 0, 0]) ⟨tm, g⟩ (roundK (fun tm : Nat → LV => (tm 0, tm 7, tm 29, tm 30)) (fun tm : Nat → LV => tm 31) R5 (exitL 2 (thenL (kj62_3  K) (en62 K)))) := by
  try unfold L62_5 at h
  unfold kj62_3
  generalize @J62_3 = Q62_3 at h ⊢
  refine code2_sound ok_mono _ _ _ ?_
  refine kmp ?_ h
  generalize Ok Try.prog = C
  try unfold en62
  as_aux_lemma => kernel_rfl

noncomputable def J62_4 (x0 x7 x29 x30 x31 : LV) (g : LHeap)  (K : LV → LHeap → Prop) : Prop :=
  loopP (fun s g N => L62_5 x0 x7 x29 x30 s g N  K) x31 g
abbrev kj62_4  (K : LV → LHeap → Prop) : LSt → Prop := fun st => J62_4 (st.tm 0) (st.tm 7) (st.tm 29) (st.tm 30) (st.tm 31) st.g  K
theorem J62_4_ok  (K : LV → LHeap → Prop) (tm : Nat → LV) (g : LHeap) (h : J62_4 (tm 0) (tm 7) (tm 29) (tm 30) (tm 31) g  K) : codeL Try.prog (Ok Try.prog) (nd62 [1, 1, 1, 0, 1]) ⟨tm, g⟩ (thenL (kj62_3  K) (en62 K)) := by
  refine block_i (b := nd62 [1, 1, 1, 0, 1, 0]) (i := 2) (by kernel_rfl) ?_
  exact loop_glue (b := nd62 [1, 1, 1, 0, 1, 0, 0]) (by kernel_rfl) (fun tm : Nat → LV => (tm 0, tm 7, tm 29, tm 30)) (fun tm : Nat → LV => tm 31) (fun a s g N => L62_5 a.1 a.2.1 a.2.2.1 a.2.2.2 s g N  K) (fun tm g R h => L62_5_ok R  K tm g h) tm g h

noncomputable def J62_2 (x0 x7 : LV) (g : LHeap)  (K : LV → LHeap → Prop) : Prop :=
  oK (builtinL Try.prog .len [24] [x7] g) fun t30 g =>
  J62_4 x0 x7 x7 t30 (.int .i64 (0)) g  K
abbrev kj62_2  (K : LV → LHeap → Prop) : LSt → Prop := fun st => J62_2 (st.tm 0) (st.tm 7) st.g  K
theorem J62_2_ok  (K : LV → LHeap → Prop) (tm : Nat → LV) (g : LHeap) (h : J62_2 (tm 0) (tm 7) g  K) : codeL Try.prog (Ok Try.prog) (nd62 [1, 1, 1]) ⟨tm, g⟩ (en62 K) := by
  refine seq_i (a := nd62 [1, 1, 1, 0]) (b := nd62 [1, 1, 1, 1]) (k' := kj62_3  K) (by kernel_rfl) (fun st h => J62_3_ok  K st.tm st.g h) ?_
  refine seq_i (a := nd62 [1, 1, 1, 0, 0]) (b := nd62 [1, 1, 1, 0, 1]) (k' := kj62_4  K) (by kernel_rfl) (fun st h => J62_4_ok  K st.tm st.g h) ?_
  try unfold J62_2 at h
  unfold kj62_4
  generalize @J62_4 = Q62_4 at h ⊢
  unfold kj62_3
  generalize @J62_3 = Q62_3 at h ⊢
  refine code2_sound ok_mono _ _ _ ?_
  refine kmp ?_ h
  generalize Ok Try.prog = C
  try unfold en62
  as_aux_lemma => kernel_rfl

noncomputable def L62_7 (x0 x2 x14 x15 : LV) (x7 x16 : LV) (g : LHeap) (N7 : LV × LV → LHeap → Prop) (K : LV → LHeap → Prop) : Prop :=
  vK (binL Try.prog .lss 3 false x16 x15) fun t17 =>
  ifB t17 (
  vK (ixAddrL none 1 x14 x16) fun t18 =>
  vK (loadV none t18 g) fun t19 =>
  oK (builtinL Try.prog .len [24] [x7] g) fun t21 g =>
  vK (binL Try.prog .lss 3 false t21 x2) fun t23 =>
  ifB t23 (
  oK (buildSliceL Try.prog 24 1 [(0, t19)] g) fun t26 g =>
  oK (builtinL Try.prog .append [24, 24] [x7, t26] g) fun t27 g =>
  vK (binL Try.prog .add 3 true x16 (.int .i64 (1))) fun t28 =>
  N7 (t27, t28) g) (
  vK (binL Try.prog .add 3 true x16 (.int .i64 (1))) fun t28 =>
  N7 (x7, t28) g)) (
  J62_2 x0 x7 g  K)
theorem L62_7_ok (R7 : LV × LV × LV × LV → LV × LV → LHeap → Prop) (K : LV → LHeap → Prop) (tm : Nat → LV) (g : LHeap) (h : L62_7 (tm 0) (tm 2) (tm 14) (tm 15) (tm 7) (tm 16) g (fun s g => R7 ((tm 0), (tm 2), (tm 14), (tm 15)) s g) K) : codeL Try.prog (Ok Try.prog) (nd62 [1, 1, 0, 1, 0, 0]) ⟨tm, g⟩ (roundK (fun tm : Nat → LV => (tm 0, tm 2, tm 14, tm 15)) (fun tm : Nat → LV => (tm 7, tm 16)) R7 (exitL 0 (thenL (kj62_2  K) (en62 K)))) := by
  try unfold L62_7 at h
  unfold kj62_2
  generalize @J62_2 = Q62_2 at h ⊢
  refine code2_sound ok_mono _ _ _ ?_
  refine kmp ?_ h
  generalize Ok Try.prog = C
  try unfold en62
  as_aux_lemma => kernel_rfl

noncomputable def J62_6 (x0 x2 x7 x14 x15 x16 : LV) (g : LHeap)  (K : LV → LHeap → Prop) : Prop :=
  loopP (fun s g N => L62_7 x0 x2 x14 x15 s.1 s.2 g N  K) (x7, x16) g
abbrev kj62_6  (K : LV → LHeap → Prop) : LSt → Prop := fun st => J62_6 (st.tm 0) (st.tm 2) (st.tm 7) (st.tm 14) (st.tm 15) (st.tm 16) st.g  K
theorem J62_6_ok  (K : LV → LHeap → Prop) (tm : Nat → LV) (g : LHeap) (h : J62_6 (tm 0) (tm 2) (tm 7) (tm 14) (tm 15) (tm 16) g  K) : codeL Try.prog (Ok Try.prog) (nd62 [1, 1, 0, 1]) ⟨tm, g⟩ (thenL (kj62_2  K) (en62 K)) := by
  refine block_i (b := nd62 [1, 1, 0, 1, 0]) (i := 0) (by kernel_rfl) ?_
  exact loop_glue (b := nd62 [1, 1, 0, 1, 0, 0]) (by kernel_rfl) (fun tm : Nat → LV => (tm 0, tm 2, tm 14, tm 15)) (fun tm : Nat → LV => (tm 7, tm 16)) (fun a s g N => L62_7 a.1 a.2.1 a.2.2.1 a.2.2.2 s.1 s.2 g N  K) (fun tm g R h => L62_7_ok R  K tm g h) tm g h

noncomputable def J62_1 (x0 x2 x4 x7 : LV) (g : LHeap)  (K : LV → LHeap → Prop) : Prop :=
  vK (loadV (some 3) x4 g) fun t13 =>
  Ok Try.prog 66 [x0, t13] g fun t14 g =>
  oK (builtinL Try.prog .len [24] [t14] g) fun t15 g =>
  J62_6 x0 x2 x7 t14 t15 (.int .i64 (0)) g  K
abbrev kj62_1  (K : LV → LHeap → Prop) : LSt → Prop := fun st => J62_1 (st.tm 0) (st.tm 2) (st.tm 4) (st.tm 7) st.g  K
theorem J62_1_ok  (K : LV → LHeap → Prop) (tm : Nat → LV) (g : LHeap) (h : J62_1 (tm 0) (tm 2) (tm 4) (tm 7) g  K) : codeL Try.prog (Ok Try.prog) (nd62 [1, 1]) ⟨tm, g⟩ (en62 K) := by
  refine seq_i (a := nd62 [1, 1, 0]) (b := nd62 [1, 1, 1]) (k' := kj62_2  K) (by kernel_rfl) (fun st h => J62_2_ok  K st.tm st.g h) ?_
  refine seq_i (a := nd62 [1, 1, 0, 0]) (b := nd62 [1, 1, 0, 1]) (k' := kj62_6  K) (by kernel_rfl) (fun st h => J62_6_ok  K st.tm st.g h) ?_
  try unfold J62_1 at h
  unfold kj62_6
  generalize @J62_6 = Q62_6 at h ⊢
  unfold kj62_2
  generalize @J62_2 = Q62_2 at h ⊢
  refine code2_sound ok_mono _ _ _ ?_
  refine kmp ?_ h
  generalize Ok Try.prog = C
  try unfold en62
  as_aux_lemma => kernel_rfl

noncomputable def J62_0 (x0 x2 x4 : LV) (g : LHeap)  (K : LV → LHeap → Prop) : Prop :=
  J62_1 x0 x2 x4 .nils g  K
abbrev kj62_0  (K : LV → LHeap → Prop) : LSt → Prop := fun st => J62_0 (st.tm 0) (st.tm 2) (st.tm 4) st.g  K
theorem J62_0_ok  (K : LV → LHeap → Prop) (tm : Nat → LV) (g : LHeap) (h : J62_0 (tm 0) (tm 2) (tm 4) g  K) : codeL Try.prog (Ok Try.prog) (nd62 [1]) ⟨tm, g⟩ (en62 K) := by
  refine seq_i (a := nd62 [1, 0]) (b := nd62 [1, 1]) (k' := kj62_1  K) (by kernel_rfl) (fun st h => J62_1_ok  K st.tm st.g h) ?_
  try unfold J62_0 at h
  unfold kj62_1
  generalize @J62_1 = Q62_1 at h ⊢
  refine code2_sound ok_mono _ _ _ ?_
  refine kmp ?_ h
  generalize Ok Try.prog = C
  try unfold en62
  as_aux_lemma => kernel_rfl

noncomputable def F62 (x0 x1 x2 : LV) (g : LHeap) (K : LV → LHeap → Prop) : Prop :=
  oK (newL x1 g) fun t4 g =>
  J62_0 x0 x2 t4 g  K
theorem ok62 {x0 x1 x2 : LV} {g : LHeap} {K : LV → LHeap → Prop} (h : g.Wf → (∀ v ∈ ([x0, x1, x2] : List LV), ∀ b ∈ v.objs, b < g.next) → F62 x0 x1 x2 g K) : Ok Try.prog 62 [x0, x1, x2] g K := by
  refine ok_fw Try.mixed Try.func62 (by kernel_rfl) (by kernel_rfl) (c := nd62 []) (by kernel_rfl) fun wf lt => ?_
  rw [← en62_eq]
  replace h := h wf lt
  generalize hs : startL _ = tm
  replace h : F62 (tm 0) (tm 1) (tm 2) g K := by rw [← hs]; exact h
  refine seq_i (a := nd62 [0]) (b := nd62 [1]) (k' := kj62_0  K) (by kernel_rfl) (fun st h => J62_0_ok  K st.tm st.g h) ?_
  try unfold F62 at h
  unfold kj62_0
  generalize @J62_0 = Q62_0 at h ⊢
  refine code2_sound ok_mono _ _ _ ?_
  refine kmp ?_ h
  generalize Ok Try.prog = C
  try unfold en62
  as_aux_lemma => kernel_rfl

/-! (*parapet/parapetref12.Queue).Cancel (40 slots) -/
noncomputable def en63 (K : LV → LHeap → Prop) : LEx → LSt → Prop := fun e st => match e with
  | .exit _ => False
  | _ => K (st.tm 4) st.g
theorem en63_eq (K : LV → LHeap → Prop) : en63 K = endL Try.prog Try.f63 K := by
  funext e st
  cases e <;> kernel_rfl
noncomputable def nd63 (p : List Nat) : Code := subC p (bodyC Try.prog 63)
noncomputable def J63_2 (x0 x5 : LV) (g : LHeap)  (K : LV → LHeap → Prop) : Prop :=
  oK (builtinL Try.prog .len [73] [x5] g) fun t28 g =>
  vK (nilCheckL x0) fun t30 =>
  vK (fieldAddrL 0 t30) fun t31 =>
  vK (loadV none t31 g) fun t32 =>
  oK (builtinL Try.prog .len [73] [t32] g) fun t33 g =>
  vK (binL Try.prog .lss 3 false t28 t33) fun t34 =>
  vK (nilCheckL x0) fun t37 =>
  vK (fieldAddrL 0 t37) fun t38 =>
  gK (storeV 1 t38 x5 g) fun g =>
  K t34 g
abbrev kj63_2  (K : LV → LHeap → Prop) : LSt → Prop := fun st => J63_2 (st.tm 0) (st.tm 5) st.g  K
theorem J63_2_ok  (K : LV → LHeap → Prop) (tm : Nat → LV) (g : LHeap) (h : J63_2 (tm 0) (tm 5) g  K) : codeL Try.prog (Ok Try.prog) (nd63 [1, 1, 1]) ⟨tm, g⟩ (en63 K) := by
  try unfold J63_2 at h
  refine code2_sound ok_mono _ _ _ ?_
  refine kmp ?_ h
  generalize Ok Try.prog = C
  try unfold en63
  as_aux_lemma => kernel_rfl

noncomputable def L63_4 (x0 x1 x12 x13 : LV) (x5 x14 : LV) (g : LHeap) (N4 : LV × LV → LHeap → Prop) (K : LV → LHeap → Prop) : Prop :=
  vK (binL Try.prog .lss 3 false x14 x13) fun t15 =>
  ifB t15 (
  vK (ixAddrL none 5 x12 x14) fun t16 =>
  vK (loadV (some 5) t16 g) fun t17 =>
  oK (newL (.agg [(.int .i64 (0)), (.int .i64 (0)), (.int .i64 (0)), (.int .i64 (0)), (.int .i64 (0))]) g) fun t7 g =>
  gK (storeV 5 t7 t17 g) fun g =>
  vK (fieldAddrL 0 t7) fun t18 =>
  vK (loadV none t18 g) fun t19 =>
  vK (binL Try.prog .neq 3 false t19 x1) fun t21 =>
  ifB t21 (
  vK (loadV (some 5) t7 g) fun t23 =>
  oK (buildSliceL Try.prog 73 1 [(0, t23)] g) fun t24 g =>
  oK (builtinL Try.prog .append [73, 73] [x5, t24] g) fun t25 g =>
  vK (binL Try.prog .add 3 true x14 (.int .i64 (1))) fun t26 =>
  N4 (t25, t26) g) (
  vK (binL Try.prog .add 3 true x14 (.int .i64 (1))) fun t26 =>
  N4 (x5, t26) g)) (
  J63_2 x0 x5 g  K)
theorem L63_4_ok (R4 : LV × LV × LV × LV → LV × LV → LHeap → Prop) (K : LV → LHeap → Prop) (tm : Nat → LV) (g : LHeap) (h : L63_4 (tm 0) (tm 1) (tm 12) (tm 13) (tm 5) (tm 14) g (fun s g => R4 ((tm 0), (tm 1), (tm 12), (tm 13)) s g) K) : codeL Try.prog (Ok Try.prog) (nd63 [1, 1, 0, 1, 0, 0]) ⟨tm, g⟩ (roundK (fun tm : Nat → LV => (tm 0, tm 1, tm 12, tm 13)) (fun tm : Nat → LV => (tm 5, tm 14)) R4 (exitL 0 (thenL (kj63_2  K) (en63 K)))) := by
  try unfold L63_4 at h
  unfold kj63_2
  generalize @J63_2 = Q63_2 at h ⊢
  refine code2_sound ok_mono _ _ _ ?_
  refine kmp ?_ h
  generalize Ok Try.prog = C
  try unfold en63
  as_aux_lemma => kernel_rfl

noncomputable def J63_3 (x0 x1 x5 x12 x13 x14 : LV) (g : LHeap)  (K : LV → LHeap → Prop) : Prop :=
  loopP (fun s g N => L63_4 x0 x1 x12 x13 s.1 s.2 g N  K) (x5, x14) g
abbrev kj63_3  (K : LV → LHeap → Prop) : LSt → Prop := fun st => J63_3 (st.tm 0) (st.tm 1) (st.tm 5) (st.tm 12) (st.tm 13) (st.tm 14) st.g  K
theorem J63_3_ok  (K : LV → LHeap → Prop) (tm : Nat → LV) (g : LHeap) (h : J63_3 (tm 0) (tm 1) (tm 5) (tm 12) (tm 13) (tm 14) g  K) : codeL Try.prog (Ok Try.prog) (nd63 [1, 1, 0, 1]) ⟨tm, g⟩ (thenL (kj63_2  K) (en63 K)) := by
  refine block_i (b := nd63 [1, 1, 0, 1, 0]) (i := 0) (by kernel_rfl) ?_
  exact loop_glue (b := nd63 [1, 1, 0, 1, 0, 0]) (by kernel_rfl) (fun tm : Nat → LV => (tm 0, tm 1, tm 12, tm 13)) (fun tm : Nat → LV => (tm 5, tm 14)) (fun a s g N => L63_4 a.1 a.2.1 a.2.2.1 a.2.2.2 s.1 s.2 g N  K) (fun tm g R h => L63_4_ok R  K tm g h) tm g h

noncomputable def J63_1 (x0 x1 x5 : LV) (g : LHeap)  (K : LV → LHeap → Prop) : Prop :=
  vK (nilCheckL x0) fun t10 =>
  vK (fieldAddrL 0 t10) fun t11 =>
  vK (loadV none t11 g) fun t12 =>
  oK (builtinL Try.prog .len [73] [t12] g) fun t13 g =>
  J63_3 x0 x1 x5 t12 t13 (.int .i64 (0)) g  K
abbrev kj63_1  (K : LV → LHeap → Prop) : LSt → Prop := fun st => J63_1 (st.tm 0) (st.tm 1) (st.tm 5) st.g  K
theorem J63_1_ok  (K : LV → LHeap → Prop) (tm : Nat → LV) (g : LHeap) (h : J63_1 (tm 0) (tm 1) (tm 5) g  K) : codeL Try.prog (Ok Try.prog) (nd63 [1, 1]) ⟨tm, g⟩ (en63 K) := by
  refine seq_i (a := nd63 [1, 1, 0]) (b := nd63 [1, 1, 1]) (k' := kj63_2  K) (by kernel_rfl) (fun st h => J63_2_ok  K st.tm st.g h) ?_
  refine seq_i (a := nd63 [1, 1, 0, 0]) (b := nd63 [1, 1, 0, 1]) (k' := kj63_3  K) (by kernel_rfl) (fun st h => J63_3_ok  K st.tm st.g h) ?_
  try unfold J63_1 at h
  unfold kj63_3
  generalize @J63_3 = Q63_3 at h ⊢
  unfold kj63_2
  generalize @J63_2 = Q63_2 at h ⊢
  refine code2_sound ok_mono _ _ _ ?_
  refine kmp ?_ h
  generalize Ok Try.prog = C
  try unfold en63
  as_aux_lemma => kernel_rfl

noncomputable def J63_0 (x0 x1 : LV) (g : LHeap)  (K : LV → LHeap → Prop) : Prop :=
  J63_1 x0 x1 .nils g  K
abbrev kj63_0  (K : LV → LHeap → Prop) : LSt → Prop := fun st => J63_0 (st.tm 0) (st.tm 1) st.g  K
theorem J63_0_ok  (K : LV → LHeap → Prop) (tm : Nat → LV) (g : LHeap) (h : J63_0 (tm 0) (tm 1) g  K) : codeL Try.prog (Ok Try.prog) (nd63 [1]) ⟨tm, g⟩ (en63 K) := by
  refine seq_i (a := nd63 [1, 0]) (b := nd63 [1, 1]) (k' := kj63_1  K) (by kernel_rfl) (fun st h => J63_1_ok  K st.tm st.g h) ?_
  try unfold J63_0 at h
  unfold kj63_1
  generalize @J63_1 = Q63_1 at h ⊢
  refine code2_sound ok_mono _ _ _ ?_
  refine kmp ?_ h
  generalize Ok Try.prog = C
  try unfold en63
  as_aux_lemma => kernel_rfl

noncomputable def F63 (x0 x1 : LV) (g : LHeap) (K : LV → LHeap → Prop) : Prop :=
  J63_0 x0 x1 g  K
theorem ok63 {x0 x1 : LV} {g : LHeap} {K : LV → LHeap → Prop} (h : g.Wf → (∀ v ∈ ([x0, x1] : List LV), ∀ b ∈ v.objs, b < g.next) → F63 x0 x1 g K) : Ok Try.prog 63 [x0, x1] g K := by
  refine ok_fw Try.mixed Try.func63 (by kernel_rfl) (by kernel_rfl) (c := nd63 []) (by kernel_rfl) fun wf lt => ?_
  rw [← en63_eq]
  replace h := h wf lt
  generalize hs : startL _ = tm
  replace h : F63 (tm 0) (tm 1) g K := by rw [← hs]; exact h
  refine seq_i (a := nd63 [0]) (b := nd63 [1]) (k' := kj63_0  K) (by kernel_rfl) (fun st h => J63_0_ok  K st.tm st.g h) ?_
  try unfold F63 at h
  unfold kj63_0
  generalize @J63_0 = Q63_0 at h ⊢
  refine code2_sound ok_mono _ _ _ ?_
  refine kmp ?_ h
  generalize Ok Try.prog = C
  try unfold en63
  as_aux_lemma => kernel_rfl

/-! (*parapet/parapetref12.Queue).Move (81 slots) -/
noncomputable def en64 (K : LV → LHeap → Prop) : LEx → LSt → Prop := fun e st => match e with
  | .exit _ => False
  | _ => K (st.tm 8) st.g
theorem en64_eq (K : LV → LHeap → Prop) : en64 K = endL Try.prog Try.f64 K := by
  funext e st
  cases e <;> kernel_rfl
noncomputable def nd64 (p : List Nat) : Code := subC p (bodyC Try.prog 64)
noncomputable def J64_4 (x0 x9 x10 x11 : LV) (g : LHeap)  (K : LV → LHeap → Prop) : Prop :=
  oK (builtinL Try.prog .append [73, 73] [x10, x11] g) fun t77 g =>
  vK (nilCheckL x0) fun t78 =>
  vK (fieldAddrL 0 t78) fun t79 =>
  gK (storeV 1 t79 t77 g) fun g =>
  K x9 g
abbrev kj64_4  (K : LV → LHeap → Prop) : LSt → Prop := fun st => J64_4 (st.tm 0) (st.tm 9) (st.tm 10) (st.tm 11) st.g  K
theorem J64_4_ok  (K : LV → LHeap → Prop) (tm : Nat → LV) (g : LHeap) (h : J64_4 (tm 0) (tm 9) (tm 10) (tm 11) g  K) : codeL Try.prog (Ok Try.prog) (nd64 [1, 1, 1, 1, 1]) ⟨tm, g⟩ (en64 K) := by
  try unfold J64_4 at h
  refine code2_sound ok_mono _ _ _ ?_
  refine kmp ?_ h
  generalize Ok Try.prog = C
  try unfold en64
  as_aux_lemma => kernel_rfl

noncomputable def J64_9 (x0 x3 x5 x6 x9 x10 x11 x23 x24 x25 : LV) (g : LHeap) (N6 : LV × LV × LV × LV → LHeap → Prop) (K : LV → LHeap → Prop) : Prop :=
  vK (binL Try.prog .add 3 true x25 (.int .i64 (1))) fun t73 =>
  N6 (x9, x10, x11, t73) g
abbrev kj64_9 (R6 : LV × LV × LV × LV × LV × LV → LV × LV × LV × LV → LHeap → Prop) (K : LV → LHeap → Prop) : LSt → Prop := fun st => J64_9 (st.tm 0) (st.tm 3) (st.tm 5) (st.tm 6) (st.tm 9) (st.tm 10) (st.tm 11) (st.tm 23) (st.tm 24) (st.tm 25) st.g (fun s g => R6 ((st.tm 0), (st.tm 3), (st.tm 5), (st.tm 6), (st.tm 23), (st.tm 24)) s g) K
theorem J64_9_ok (R6 : LV × LV × LV × LV × LV × LV → LV × LV × LV × LV → LHeap → Prop) (K : LV → LHeap → Prop) (tm : Nat → LV) (g : LHeap) (h : J64_9 (tm 0) (tm 3) (tm 5) (tm 6) (tm 9) (tm 10) (tm 11) (tm 23) (tm 24) (tm 25) g (fun s g => R6 ((tm 0), (tm 3), (tm 5), (tm 6), (tm 23), (tm 24)) s g) K) : codeL Try.prog (Ok Try.prog) (nd64 [1, 1, 1, 1, 0, 1, 0, 0, 1, 1, 1]) ⟨tm, g⟩ (roundK (fun tm : Nat → LV => (tm 0, tm 3, tm 5, tm 6, tm 23, tm 24)) (fun tm : Nat → LV => (tm 9, tm 10, tm 11, tm 25)) R6 (exitL 0 (thenL (kj64_4  K) (en64 K)))) := by
  try unfold J64_9 at h
  unfold kj64_4
  generalize @J64_4 = Q64_4 at h ⊢
  refine code2_sound ok_mono _ _ _ ?_
  refine kmp ?_ h
  generalize Ok Try.prog = C
  try unfold en64
  as_aux_lemma => kernel_rfl

noncomputable def J64_12 (x0 x3 x5 x6 x9 x10 x11 x13 x14 x23 x24 x25 : LV) (g : LHeap) (N6 : LV × LV × LV × LV → LHeap → Prop) (K : LV → LHeap → Prop) : Prop :=
  vK (fieldAddrL 1 x13) fun t45 =>
  vK (loadV (some 3) t45 g) fun t46 =>
  vK (loadV (some 3) x5 g) fun t47 =>
  vK (binL Try.prog .eql 23 false t46 t47) fun t48 =>
  gd t48 true g (fun K => K x14 g) fun t50 g =>
  gd t48 true g (fun K => vK (unL .not t50) fun v => K v g) fun t51 g =>
  vK (pickL t48 t51 (.bool false)) fun t52 =>
  gd t52 true g (fun K => K x9 g) fun t54 g =>
  gd t52 true g (fun K => K x3 g) fun t55 g =>
  gd t52 true g (fun K => vK (binL Try.prog .lss 3 false t54 t55) fun v => K v g) fun t56 g =>
  vK (pickL t52 t56 (.bool false)) fun t57 =>
  ifB t57 (
  vK (binL Try.prog .add 3 true x9 (.int .i64 (1))) fun t59 =>
  vK (fieldAddrL 0 x13) fun t61 =>
  vK (loadV none t61 g) fun t62 =>
  vK (loadV (some 3) x6 g) fun t63 =>
  vK (fieldAddrL 4 x13) fun t64 =>
  vK (loadV none t64 g) fun t65 =>
  vK (buildL Try.prog 78 [(0, t62), (1, t63), (2, t65)]) fun t66 =>
  oK (buildSliceL Try.prog 73 1 [(0, t66)] g) fun t67 g =>
  oK (builtinL Try.prog .append [73, 73] [x11, t67] g) fun t68 g =>
  J64_9 x0 x3 x5 x6 t59 x10 t68 x23 x24 x25 g N6 K) (
  vK (loadV (some 5) x13 g) fun t70 =>
  oK (buildSliceL Try.prog 73 1 [(0, t70)] g) fun t71 g =>
  oK (builtinL Try.prog .append [73, 73] [x10, t71] g) fun t72 g =>
  J64_9 x0 x3 x5 x6 x9 t72 x11 x23 x24 x25 g N6 K)
abbrev kj64_12 (R6 : LV × LV × LV × LV × LV × LV → LV × LV × LV × LV → LHeap → Prop) (K : LV → LHeap → Prop) : LSt → Prop := fun st => J64_12 (st.tm 0) (st.tm 3) (st.tm 5) (st.tm 6) (st.tm 9) (st.tm 10) (st.tm 11) (st.tm 13) (st.tm 14) (st.tm 23) (st.tm 24) (st.tm 25) st.g (fun s g => R6 ((st.tm 0), (st.tm 3), (st.tm 5), (st.tm 6), (st.tm 23), (st.tm 24)) s g) K
theorem J64_12_ok (R6 : LV × LV × LV × LV × LV × LV → LV × LV × LV × LV → LHeap → Prop) (K : LV → LHeap → Prop) (tm : Nat → LV) (g : LHeap) (h : J64_12 (tm 0) (tm 3) (tm 5) (tm 6) (tm 9) (tm 10) (tm 11) (tm 13) (tm 14) (tm 23) (tm 24) (tm 25) g (fun s g => R6 ((tm 0), (tm 3), (tm 5), (tm 6), (tm 23), (tm 24)) s g) K) : codeL Try.prog (Ok Try.prog) (nd64 [1, 1, 1, 1, 0, 1, 0, 0, 1, 1, 0, 0, 1, 1, 1]) ⟨tm, g⟩ (exitL 1 (thenL (kj64_9 R6 K) (roundK (fun tm : Nat → LV => (tm 0, tm 3, tm 5, tm 6, tm 23, tm 24)) (fun tm : Nat → LV => (tm 9, tm 10, tm 11, tm 25)) R6 (exitL 0 (thenL (kj64_4  K) (en64 K)))))) := by
  try unfold J64_12 at h
  unfold kj64_9
  generalize @J64_9 = Q64_9 at h ⊢
  unfold kj64_4
  generalize @J64_4 = Q64_4 at h ⊢
  refine code2_sound ok_mono _ _ _ ?_
  refine kmp ?_ h
  generalize Ok Try.prog = C
  try unfold en64
  as_aux_lemma => kernel_rfl

noncomputable def L64_14 (x0 x3 x5 x6 x9 x10 x11 x13 x23 x24 x25 x32 x33 : LV) (x14 x34 : LV) (g : LHeap) (N14 : LV × LV → LHeap → Prop) (N6 : LV × LV × LV × LV → LHeap → Prop) (K : LV → LHeap → Prop) : Prop :=
  vK (binL Try.prog .lss 3 false x34 x33) fun t35 =>
  ifB t35 (
  vK (ixAddrL none 3 x32 x34) fun t36 =>
  vK (loadV (some 3) t36 g) fun t37 =>
  oK (newL (.agg [(.int .i64 (0)), (.int .i64 (0)), (.int .i64 (0))]) g) fun t16 g =>
  gK (storeV 3 t16 t37 g) fun g =>
  gd x14 false g (fun K => vK (loadV (some 3) t16 g) fun v => K v g) fun t40 g =>
  gd x14 false g (fun K => vK (loadV (some 3) x6 g) fun v => K v g) fun t41 g =>
  gd x14 false g (fun K => vK (binL Try.prog .eql 23 false t40 t41) fun v => K v g) fun t42 g =>
  vK (pickL x14 (.bool true) t42) fun t43 =>
  vK (binL Try.prog .add 3 true x34 (.int .i64 (1))) fun t44 =>
  N14 (t43, t44) g) (
  J64_12 x0 x3 x5 x6 x9 x10 x11 x13 x14 x23 x24 x25 g N6 K)
theorem L64_14_ok (R14 : LV × LV × LV × LV × LV × LV × LV × LV × LV × LV × LV × LV × LV → LV × LV → LHeap → Prop) (R6 : LV × LV × LV × LV × LV × LV → LV × LV × LV × LV → LHeap → Prop) (K : LV → LHeap → Prop) (tm : Nat → LV) (g : LHeap) (h : L64_14 (tm 0) (tm 3) (tm 5) (tm 6) (tm 9) (tm 10) (tm 11) (tm 13) (tm 23) (tm 24) (tm 25) (tm 32) (tm 33) (tm 14) (tm 34) g (fun s g => R14 ((tm 0), (tm 3), (tm 5), (tm 6), (tm 9), (tm 10), (tm 11), (tm 13), (tm 23), (tm 24), (tm 25), (tm 32), (tm 33)) s g) (fun s g => R6 ((tm 0), (tm 3), (tm 5), (tm 6), (tm 23), (tm 24)) s g) K) : codeL Try.prog (Ok Try.prog) (nd64 [1, 1, 1, 1, 0, 1, 0, 0, 1, 1, 0, 0, 1, 1, 0, 1, 0, 0]) ⟨tm, g⟩ (roundK (fun tm : Nat → LV => (tm 0, tm 3, tm 5, tm 6, tm 9, tm 10, tm 11, tm 13, tm 23, tm 24, tm 25, tm 32, tm 33)) (fun tm : Nat → LV => (tm 14, tm 34)) R14 (exitL 2 (thenL (kj64_12 R6 K) (exitL 1 (thenL (kj64_9 R6 K) (roundK (fun tm : Nat → LV => (tm 0, tm 3, tm 5, tm 6, tm 23, tm 24)) (fun tm : Nat → LV => (tm 9, tm 10, tm 11, tm 25)) R6 (exitL 0 (thenL (kj64_4  K) (en64 K))))))))) := by
  try unfold L64_14 at h
  unfold kj64_12
  generalize @J64_12 = Q64_12 at h ⊢
  unfold kj64_9
  generalize @J64_9 = Q64_9 at h ⊢
  unfold kj64_4
  generalize @J64_4 = Q64_4 at h ⊢
  refine code2_sound ok_mono _ _ _ ?_
  refine kmp ?_ h
  generalize Ok Try.prog = C
  try unfold en64
  as_aux_lemma => kernel_rfl

noncomputable def J64_13 (x0 x3 x5 x6 x9 x10 x11 x13 x14 x23 x24 x25 x32 x33 x34 : LV) (g : LHeap) (N6 : LV × LV × LV × LV → LHeap → Prop) (K : LV → LHeap → Prop) : Prop :=
  loopP (fun s g N => L64_14 x0 x3 x5 x6 x9 x10 x11 x13 x23 x24 x25 x32 x33 s.1 s.2 g N N6 K) (x14, x34) g
abbrev kj64_13 (R6 : LV × LV × LV × LV × LV × LV → LV × LV × LV × LV → LHeap → Prop) (K : LV → LHeap → Prop) : LSt → Prop := fun st => J64_13 (st.tm 0) (st.tm 3) (st.tm 5) (st.tm 6) (st.tm 9) (st.tm 10) (st.tm 11) (st.tm 13) (st.tm 14) (st.tm 23) (st.tm 24) (st.tm 25) (st.tm 32) (st.tm 33) (st.tm 34) st.g (fun s g => R6 ((st.tm 0), (st.tm 3), (st.tm 5), (st.tm 6), (st.tm 23), (st.tm 24)) s g) K
theorem J64_13_ok (R6 : LV × LV × LV × LV × LV × LV → LV × LV × LV × LV → LHeap → Prop) (K : LV → LHeap → Prop) (tm : Nat → LV) (g : LHeap) (h : J64_13 (tm 0) (tm 3) (tm 5) (tm 6) (tm 9) (tm 10) (tm 11) (tm 13) (tm 14) (tm 23) (tm 24) (tm 25) (tm 32) (tm 33) (tm 34) g (fun s g => R6 ((tm 0), (tm 3), (tm 5), (tm 6), (tm 23), (tm 24)) s g) K) : codeL Try.prog (Ok Try.prog) (nd64 [1, 1, 1, 1, 0, 1, 0, 0, 1, 1, 0, 0, 1, 1, 0, 1]) ⟨tm, g⟩ (thenL (kj64_12 R6 K) (exitL 1 (thenL (kj64_9 R6 K) (roundK (fun tm : Nat → LV => (tm 0, tm 3, tm 5, tm 6, tm 23, tm 24)) (fun tm : Nat → LV => (tm 9, tm 10, tm 11, tm 25)) R6 (exitL 0 (thenL (kj64_4  K) (en64 K))))))) := by
  refine block_i (b := nd64 [1, 1, 1, 1, 0, 1, 0, 0, 1, 1, 0, 0, 1, 1, 0, 1, 0]) (i := 2) (by kernel_rfl) ?_
  exact loop_glue (b := nd64 [1, 1, 1, 1, 0, 1, 0, 0, 1, 1, 0, 0, 1, 1, 0, 1, 0, 0]) (by kernel_rfl) (fun tm : Nat → LV => (tm 0, tm 3, tm 5, tm 6, tm 9, tm 10, tm 11, tm 13, tm 23, tm 24, tm 25, tm 32, tm 33)) (fun tm : Nat → LV => (tm 14, tm 34)) (fun a s g N => L64_14 a.1 a.2.1 a.2.2.1 a.2.2.2.1 a.2.2.2.2.1 a.2.2.2.2.2.1 a.2.2.2.2.2.2.1 a.2.2.2.2.2.2.2.1 a.2.2.2.2.2.2.2.2.1 a.2.2.2.2.2.2.2.2.2.1 a.2.2.2.2.2.2.2.2.2.2.1 a.2.2.2.2.2.2.2.2.2.2.2.1 a.2.2.2.2.2.2.2.2.2.2.2.2 s.1 s.2 g N (fun s g => R6 ((a.1), (a.2.1), (a.2.2.1), (a.2.2.2.1), (a.2.2.2.2.2.2.2.2.1), (a.2.2.2.2.2.2.2.2.2.1)) s g) K) (fun tm g R h => L64_14_ok R R6 K tm g h) tm g h

noncomputable def J64_11 (x0 x3 x5 x6 x9 x10 x11 x13 x14 x23 x24 x25 : LV) (g : LHeap) (N6 : LV × LV × LV × LV → LHeap → Prop) (K : LV → LHeap → Prop) : Prop :=
  vK (fieldAddrL 0 x13) fun t30 =>
  vK (loadV none t30 g) fun t31 =>
  Ok Try.prog 68 [x0, t31] g fun t32 g =>
  oK (builtinL Try.prog .len [30] [t32] g) fun t33 g =>
  J64_13 x0 x3 x5 x6 x9 x10 x11 x13 x14 x23 x24 x25 t32 t33 (.int .i64 (0)) g N6 K
abbrev kj64_11 (R6 : LV × LV × LV × LV × LV × LV → LV × LV × LV × LV → LHeap → Prop) (K : LV → LHeap → Prop) : LSt → Prop := fun st => J64_11 (st.tm 0) (st.tm 3) (st.tm 5) (st.tm 6) (st.tm 9) (st.tm 10) (st.tm 11) (st.tm 13) (st.tm 14) (st.tm 23) (st.tm 24) (st.tm 25) st.g (fun s g => R6 ((st.tm 0), (st.tm 3), (st.tm 5), (st.tm 6), (st.tm 23), (st.tm 24)) s g) K
theorem J64_11_ok (R6 : LV × LV × LV × LV × LV × LV → LV × LV × LV × LV → LHeap → Prop) (K : LV → LHeap → Prop) (tm : Nat → LV) (g : LHeap) (h : J64_11 (tm 0) (tm 3) (tm 5) (tm 6) (tm 9) (tm 10) (tm 11) (tm 13) (tm 14) (tm 23) (tm 24) (tm 25) g (fun s g => R6 ((tm 0), (tm 3), (tm 5), (tm 6), (tm 23), (tm 24)) s g) K) : codeL Try.prog (Ok Try.prog) (nd64 [1, 1, 1, 1, 0, 1, 0, 0, 1, 1, 0, 0, 1, 1]) ⟨tm, g⟩ (exitL 1 (thenL (kj64_9 R6 K) (roundK (fun tm : Nat → LV => (tm 0, tm 3, tm 5, tm 6, tm 23, tm 24)) (fun tm : Nat → LV => (tm 9, tm 10, tm 11, tm 25)) R6 (exitL 0 (thenL (kj64_4  K) (en64 K)))))) := by
  refine seq_i (a := nd64 [1, 1, 1, 1, 0, 1, 0, 0, 1, 1, 0, 0, 1, 1, 0]) (b := nd64 [1, 1, 1, 1, 0, 1, 0, 0, 1, 1, 0, 0, 1, 1, 1]) (k' := kj64_12 R6 K) (by kernel_rfl) (fun st h => J64_12_ok R6 K st.tm st.g h) ?_
  refine seq_i (a := nd64 [1, 1, 1, 1, 0, 1, 0, 0, 1, 1, 0, 0, 1, 1, 0, 0]) (b := nd64 [1, 1, 1, 1, 0, 1, 0, 0, 1, 1, 0, 0, 1, 1, 0, 1]) (k' := kj64_13 R6 K) (by kernel_rfl) (fun st h => J64_13_ok R6 K st.tm st.g h) ?_
  try unfold J64_11 at h
  unfold kj64_13
  generalize @J64_13 = Q64_13 at h ⊢
  unfold kj64_12
  generalize @J64_12 = Q64_12 at h ⊢
  unfold kj64_9
  generalize @J64_9 = Q64_9 at h ⊢
  unfold kj64_4
  generalize @J64_4 = Q64_4 at h ⊢
  refine code2_sound ok_mono _ _ _ ?_
  refine kmp ?_ h
  generalize Ok Try.prog = C
  try unfold en64
  as_aux_lemma => kernel_rfl

noncomputable def J64_10 (x0 x3 x5 x6 x9 x10 x11 x13 x23 x24 x25 : LV) (g : LHeap) (N6 : LV × LV × LV × LV → LHeap → Prop) (K : LV → LHeap → Prop) : Prop :=
  J64_11 x0 x3 x5 x6 x9 x10 x11 x13 (.bool false) x23 x24 x25 g N6 K
abbrev kj64_10 (R6 : LV × LV × LV × LV × LV × LV → LV × LV × LV × LV → LHeap → Prop) (K : LV → LHeap → Prop) : LSt → Prop := fun st => J64_10 (st.tm 0) (st.tm 3) (st.tm 5) (st.tm 6) (st.tm 9) (st.tm 10) (st.tm 11) (st.tm 13) (st.tm 23) (st.tm 24) (st.tm 25) st.g (fun s g => R6 ((st.tm 0), (st.tm 3), (st.tm 5), (st.tm 6), (st.tm 23), (st.tm 24)) s g) K
theorem J64_10_ok (R6 : LV × LV × LV × LV × LV × LV → LV × LV × LV × LV → LHeap → Prop) (K : LV → LHeap → Prop) (tm : Nat → LV) (g : LHeap) (h : J64_10 (tm 0) (tm 3) (tm 5) (tm 6) (tm 9) (tm 10) (tm 11) (tm 13) (tm 23) (tm 24) (tm 25) g (fun s g => R6 ((tm 0), (tm 3), (tm 5), (tm 6), (tm 23), (tm 24)) s g) K) : codeL Try.prog (Ok Try.prog) (nd64 [1, 1, 1, 1, 0, 1, 0, 0, 1, 1, 0, 0, 1]) ⟨tm, g⟩ (exitL 1 (thenL (kj64_9 R6 K) (roundK (fun tm : Nat → LV => (tm 0, tm 3, tm 5, tm 6, tm 23, tm 24)) (fun tm : Nat → LV => (tm 9, tm 10, tm 11, tm 25)) R6 (exitL 0 (thenL (kj64_4  K) (en64 K)))))) := by
  refine seq_i (a := nd64 [1, 1, 1, 1, 0, 1, 0, 0, 1, 1, 0, 0, 1, 0]) (b := nd64 [1, 1, 1, 1, 0, 1, 0, 0, 1, 1, 0, 0, 1, 1]) (k' := kj64_11 R6 K) (by kernel_rfl) (fun st h => J64_11_ok R6 K st.tm st.g h) ?_
  try unfold J64_10 at h
  unfold kj64_11
  generalize @J64_11 = Q64_11 at h ⊢
  unfold kj64_9
  generalize @J64_9 = Q64_9 at h ⊢
  unfold kj64_4
  generalize @J64_4 = Q64_4 at h ⊢
  refine code2_sound ok_mono _ _ _ ?_
  refine kmp ?_ h
  generalize Ok Try.prog = C
  try unfold en64
  as_aux_lemma => kernel_rfl

noncomputable def J64_8 (x0 x3 x5 x6 x9 x10 x11 x23 x24 x25 : LV) (g : LHeap) (N6 : LV × LV × LV × LV → LHeap → Prop) (K : LV → LHeap → Prop) : Prop :=
  vK (ixAddrL none 5 x23 x25) fun t27 =>
  vK (loadV (some 5) t27 g) fun t28 =>
  oK (newL (.agg [(.int .i64 (0)), (.int .i64 (0)), (.int .i64 (0)), (.int .i64 (0)), (.int .i64 (0))]) g) fun t13 g =>
  gK (storeV 5 t13 t28 g) fun g =>
  J64_10 x0 x3 x5 x6 x9 x10 x11 t13 x23 x24 x25 g N6 K
abbrev kj64_8 (R6 : LV × LV × LV × LV × LV × LV → LV × LV × LV × LV → LHeap → Prop) (K : LV → LHeap → Prop) : LSt → Prop := fun st => J64_8 (st.tm 0) (st.tm 3) (st.tm 5) (st.tm 6) (st.tm 9) (st.tm 10) (st.tm 11) (st.tm 23) (st.tm 24) (st.tm 25) st.g (fun s g => R6 ((st.tm 0), (st.tm 3), (st.tm 5), (st.tm 6), (st.tm 23), (st.tm 24)) s g) K
theorem J64_8_ok (R6 : LV × LV × LV × LV × LV × LV → LV × LV × LV × LV → LHeap → Prop) (K : LV → LHeap → Prop) (tm : Nat → LV) (g : LHeap) (h : J64_8 (tm 0) (tm 3) (tm 5) (tm 6) (tm 9) (tm 10) (tm 11) (tm 23) (tm 24) (tm 25) g (fun s g => R6 ((tm 0), (tm 3), (tm 5), (tm 6), (tm 23), (tm 24)) s g) K) : codeL Try.prog (Ok Try.prog) (nd64 [1, 1, 1, 1, 0, 1, 0, 0, 1, 1]) ⟨tm, g⟩ (roundK (fun tm : Nat → LV => (tm 0, tm 3, tm 5, tm 6, tm 23, tm 24)) (fun tm : Nat → LV => (tm 9, tm 10, tm 11, tm 25)) R6 (exitL 0 (thenL (kj64_4  K) (en64 K)))) := by
  refine seq_i (a := nd64 [1, 1, 1, 1, 0, 1, 0, 0, 1, 1, 0]) (b := nd64 [1, 1, 1, 1, 0, 1, 0, 0, 1, 1, 1]) (k' := kj64_9 R6 K) (by kernel_rfl) (fun st h => J64_9_ok R6 K st.tm st.g h) ?_
  refine block_i (b := nd64 [1, 1, 1, 1, 0, 1, 0, 0, 1, 1, 0, 0]) (i := 1) (by kernel_rfl) ?_
  refine seq_i (a := nd64 [1, 1, 1, 1, 0, 1, 0, 0, 1, 1, 0, 0, 0]) (b := nd64 [1, 1, 1, 1, 0, 1, 0, 0, 1, 1, 0, 0, 1]) (k' := kj64_10 R6 K) (by kernel_rfl) (fun st h => J64_10_ok R6 K st.tm st.g h) ?_
  try unfold J64_8 at h
  unfold kj64_10
  generalize @J64_10 = Q64_10 at h ⊢
  unfold kj64_9
  generalize @J64_9 = Q64_9 at h ⊢
  unfold kj64_4
  generalize @J64_4 = Q64_4 at h ⊢
  refine code2_sound ok_mono _ _ _ ?_
  refine kmp ?_ h
  generalize Ok Try.prog = C
  try unfold en64
  as_aux_lemma => kernel_rfl

noncomputable def J64_7 (x0 x3 x5 x6 x9 x10 x11 x23 x24 x25 x26 : LV) (g : LHeap) (N6 : LV × LV × LV × LV → LHeap → Prop) (K : LV → LHeap → Prop) : Prop :=
  ifB x26 (
  J64_8 x0 x3 x5 x6 x9 x10 x11 x23 x24 x25 g N6 K) (
  J64_4 x0 x9 x10 x11 g  K)
abbrev kj64_7 (R6 : LV × LV × LV × LV × LV × LV → LV × LV × LV × LV → LHeap → Prop) (K : LV → LHeap → Prop) : LSt → Prop := fun st => J64_7 (st.tm 0) (st.tm 3) (st.tm 5) (st.tm 6) (st.tm 9) (st.tm 10) (st.tm 11) (st.tm 23) (st.tm 24) (st.tm 25) (st.tm 26) st.g (fun s g => R6 ((st.tm 0), (st.tm 3), (st.tm 5), (st.tm 6), (st.tm 23), (st.tm 24)) s g) K
theorem J64_7_ok (R6 : LV × LV × LV × LV × LV × LV → LV × LV × LV × LV → LHeap → Prop) (K : LV → LHeap → Prop) (tm : Nat → LV) (g : LHeap) (h : J64_7 (tm 0) (tm 3) (tm 5) (tm 6) (tm 9) (tm 10) (tm 11) (tm 23) (tm 24) (tm 25) (tm 26) g (fun s g => R6 ((tm 0), (tm 3), (tm 5), (tm 6), (tm 23), (tm 24)) s g) K) : codeL Try.prog (Ok Try.prog) (nd64 [1, 1, 1, 1, 0, 1, 0, 0, 1]) ⟨tm, g⟩ (roundK (fun tm : Nat → LV => (tm 0, tm 3, tm 5, tm 6, tm 23, tm 24)) (fun tm : Nat → LV => (tm 9, tm 10, tm 11, tm 25)) R6 (exitL 0 (thenL (kj64_4  K) (en64 K)))) := by
  refine seq_i (a := nd64 [1, 1, 1, 1, 0, 1, 0, 0, 1, 0]) (b := nd64 [1, 1, 1, 1, 0, 1, 0, 0, 1, 1]) (k' := kj64_8 R6 K) (by kernel_rfl) (fun st h => J64_8_ok R6 K st.tm st.g h) ?_
  try unfold J64_7 at h
  unfold kj64_8
  generalize @J64_8 = Q64_8 at h ⊢
  unfold kj64_4
  generalize @J64_4 = Q64_4 at h ⊢
  refine code2_sound ok_mono _ _ _ ?_
  refine kmp ?_ h
  generalize Ok Try.prog = C
  try unfold en64
  as_aux_lemma => kernel_rfl

noncomputable def L64_6 (x0 x3 x5 x6 x23 x24 : LV) (x9 x10 x11 x25 : LV) (g : LHeap) (N6 : LV × LV × LV × LV → LHeap → Prop) (K : LV → LHeap → Prop) : Prop :=
  vK (binL Try.prog .lss 3 false x25 x24) fun t26 =>
  J64_7 x0 x3 x5 x6 x9 x10 x11 x23 x24 x25 t26 g N6 K
theorem L64_6_ok (R6 : LV × LV × LV × LV × LV × LV → LV × LV × LV × LV → LHeap → Prop) (K : LV → LHeap → Prop) (tm : Nat → LV) (g : LHeap) (h : L64_6 (tm 0) (tm 3) (tm 5) (tm 6) (tm 23) (tm 24) (tm 9) (tm 10) (tm 11) (tm 25) g (fun s g => R6 ((tm 0), (tm 3), (tm 5), (tm 6), (tm 23), (tm 24)) s g) K) : codeL Try.prog (Ok Try.prog) (nd64 [1, 1, 1, 1, 0, 1, 0, 0]) ⟨tm, g⟩ (roundK (fun tm : Nat → LV => (tm 0, tm 3, tm 5, tm 6, tm 23, tm 24)) (fun tm : Nat → LV => (tm 9, tm 10, tm 11, tm 25)) R6 (exitL 0 (thenL (kj64_4  K) (en64 K)))) := by
  refine seq_i (a := nd64 [1, 1, 1, 1, 0, 1, 0, 0, 0]) (b := nd64 [1, 1, 1, 1, 0, 1, 0, 0, 1]) (k' := kj64_7 R6 K) (by kernel_rfl) (fun st h => J64_7_ok R6 K st.tm st.g h) ?_
  try unfold L64_6 at h
  unfold kj64_7
  generalize @J64_7 = Q64_7 at h ⊢
  unfold kj64_4
  generalize @J64_4 = Q64_4 at h ⊢
  refine code2_sound ok_mono _ _ _ ?_
  refine kmp ?_ h
  generalize Ok Try.prog = C
  try unfold en64
  as_aux_lemma => kernel_rfl

noncomputable def J64_5 (x0 x3 x5 x6 x9 x10 x11 x23 x24 x25 : LV) (g : LHeap)  (K : LV → LHeap → Prop) : Prop :=
  loopP (fun s g N => L64_6 x0 x3 x5 x6 x23 x24 s.1 s.2.1 s.2.2.1 s.2.2.2 g N  K) (x9, x10, x11, x25) g
abbrev kj64_5  (K : LV → LHeap → Prop) : LSt → Prop := fun st => J64_5 (st.tm 0) (st.tm 3) (st.tm 5) (st.tm 6) (st.tm 9) (st.tm 10) (st.tm 11) (st.tm 23) (st.tm 24) (st.tm 25) st.g  K
theorem J64_5_ok  (K : LV → LHeap → Prop) (tm : Nat → LV) (g : LHeap) (h : J64_5 (tm 0) (tm 3) (tm 5) (tm 6) (tm 9) (tm 10) (tm 11) (tm 23) (tm 24) (tm 25) g  K) : codeL Try.prog (Ok Try.prog) (nd64 [1, 1, 1, 1, 0, 1]) ⟨tm, g⟩ (thenL (kj64_4  K) (en64 K)) := by
  refine block_i (b := nd64 [1, 1, 1, 1, 0, 1, 0]) (i := 0) (by kernel_rfl) ?_
  exact loop_glue (b := nd64 [1, 1, 1, 1, 0, 1, 0, 0]) (by kernel_rfl) (fun tm : Nat → LV => (tm 0, tm 3, tm 5, tm 6, tm 23, tm 24)) (fun tm : Nat → LV => (tm 9, tm 10, tm 11, tm 25)) (fun a s g N => L64_6 a.1 a.2.1 a.2.2.1 a.2.2.2.1 a.2.2.2.2.1 a.2.2.2.2.2 s.1 s.2.1 s.2.2.1 s.2.2.2 g N  K) (fun tm g R h => L64_6_ok R  K tm g h) tm g h

noncomputable def J64_3 (x0 x3 x5 x6 x9 x10 x11 : LV) (g : LHeap)  (K : LV → LHeap → Prop) : Prop :=
  vK (nilCheckL x0) fun t21 =>
  vK (fieldAddrL 0 t21) fun t22 =>
  vK (loadV none t22 g) fun t23 =>
  oK (builtinL Try.prog .len [73] [t23] g) fun t24 g =>
  J64_5 x0 x3 x5 x6 x9 x10 x11 t23 t24 (.int .i64 (0)) g  K
abbrev kj64_3  (K : LV → LHeap → Prop) : LSt → Prop := fun st => J64_3 (st.tm 0) (st.tm 3) (st.tm 5) (st.tm 6) (st.tm 9) (st.tm 10) (st.tm 11) st.g  K
theorem J64_3_ok  (K : LV → LHeap → Prop) (tm : Nat → LV) (g : LHeap) (h : J64_3 (tm 0) (tm 3) (tm 5) (tm 6) (tm 9) (tm 10) (tm 11) g  K) : codeL Try.prog (Ok Try.prog) (nd64 [1, 1, 1, 1]) ⟨tm, g⟩ (en64 K) := by
  refine seq_i (a := nd64 [1, 1, 1, 1, 0]) (b := nd64 [1, 1, 1, 1, 1]) (k' := kj64_4  K) (by kernel_rfl) (fun st h => J64_4_ok  K st.tm st.g h) ?_
  refine seq_i (a := nd64 [1, 1, 1, 1, 0, 0]) (b := nd64 [1, 1, 1, 1, 0, 1]) (k' := kj64_5  K) (by kernel_rfl) (fun st h => J64_5_ok  K st.tm st.g h) ?_
  try unfold J64_3 at h
  unfold kj64_5
  generalize @J64_5 = Q64_5 at h ⊢
  unfold kj64_4
  generalize @J64_4 = Q64_4 at h ⊢
  refine code2_sound ok_mono _ _ _ ?_
  refine kmp ?_ h
  generalize Ok Try.prog = C
  try unfold en64
  as_aux_lemma => kernel_rfl

noncomputable def J64_2 (x0 x3 x5 x6 x9 : LV) (g : LHeap)  (K : LV → LHeap → Prop) : Prop :=
  J64_3 x0 x3 x5 x6 x9 .nils .nils g  K
abbrev kj64_2  (K : LV → LHeap → Prop) : LSt → Prop := fun st => J64_2 (st.tm 0) (st.tm 3) (st.tm 5) (st.tm 6) (st.tm 9) st.g  K
theorem J64_2_ok  (K : LV → LHeap → Prop) (tm : Nat → LV) (g : LHeap) (h : J64_2 (tm 0) (tm 3) (tm 5) (tm 6) (tm 9) g  K) : codeL Try.prog (Ok Try.prog) (nd64 [1, 1, 1]) ⟨tm, g⟩ (en64 K) := by
  refine seq_i (a := nd64 [1, 1, 1, 0]) (b := nd64 [1, 1, 1, 1]) (k' := kj64_3  K) (by kernel_rfl) (fun st h => J64_3_ok  K st.tm st.g h) ?_
  try unfold J64_2 at h
  unfold kj64_3
  generalize @J64_3 = Q64_3 at h ⊢
  refine code2_sound ok_mono _ _ _ ?_
  refine kmp ?_ h
  generalize Ok Try.prog = C
  try unfold en64
  as_aux_lemma => kernel_rfl

noncomputable def J64_1 (x0 x3 x5 x6 : LV) (g : LHeap)  (K : LV → LHeap → Prop) : Prop :=
  J64_2 x0 x3 x5 x6 (.int .i64 (0)) g  K
abbrev kj64_1  (K : LV → LHeap → Prop) : LSt → Prop := fun st => J64_1 (st.tm 0) (st.tm 3) (st.tm 5) (st.tm 6) st.g  K
theorem J64_1_ok  (K : LV → LHeap → Prop) (tm : Nat → LV) (g : LHeap) (h : J64_1 (tm 0) (tm 3) (tm 5) (tm 6) g  K) : codeL Try.prog (Ok Try.prog) (nd64 [1, 1]) ⟨tm, g⟩ (en64 K) := by
  refine seq_i (a := nd64 [1, 1, 0]) (b := nd64 [1, 1, 1]) (k' := kj64_2  K) (by kernel_rfl) (fun st h => J64_2_ok  K st.tm st.g h) ?_
  try unfold J64_1 at h
  unfold kj64_2
  generalize @J64_2 = Q64_2 at h ⊢
  refine code2_sound ok_mono _ _ _ ?_
  refine kmp ?_ h
  generalize Ok Try.prog = C
  try unfold en64
  as_aux_lemma => kernel_rfl

noncomputable def J64_0 (x0 x3 x5 x6 : LV) (g : LHeap)  (K : LV → LHeap → Prop) : Prop :=
  vK (loadV (some 3) x5 g) fun t17 =>
  vK (loadV (some 3) x6 g) fun t18 =>
  vK (binL Try.prog .eql 23 false t17 t18) fun t19 =>
  ifB t19 (
  K (.int .i64 (0)) g) (
  J64_1 x0 x3 x5 x6 g  K)
abbrev kj64_0  (K : LV → LHeap → Prop) : LSt → Prop := fun st => J64_0 (st.tm 0) (st.tm 3) (st.tm 5) (st.tm 6) st.g  K
theorem J64_0_ok  (K : LV → LHeap → Prop) (tm : Nat → LV) (g : LHeap) (h : J64_0 (tm 0) (tm 3) (tm 5) (tm 6) g  K) : codeL Try.prog (Ok Try.prog) (nd64 [1]) ⟨tm, g⟩ (en64 K) := by
  refine seq_i (a := nd64 [1, 0]) (b := nd64 [1, 1]) (k' := kj64_1  K) (by kernel_rfl) (fun st h => J64_1_ok  K st.tm st.g h) ?_
  try unfold J64_0 at h
  unfold kj64_1
  generalize @J64_1 = Q64_1 at h ⊢
  refine code2_sound ok_mono _ _ _ ?_
  refine kmp ?_ h
  generalize Ok Try.prog = C
  try unfold en64
  as_aux_lemma => kernel_rfl

noncomputable def F64 (x0 x1 x2 x3 : LV) (g : LHeap) (K : LV → LHeap → Prop) : Prop :=
  oK (newL x1 g) fun t5 g =>
  oK (newL x2 g) fun t6 g =>
  J64_0 x0 x3 t5 t6 g  K
theorem ok64 {x0 x1 x2 x3 : LV} {g : LHeap} {K : LV → LHeap → Prop} (h : g.Wf → (∀ v ∈ ([x0, x1, x2, x3] : List LV), ∀ b ∈ v.objs, b < g.next) → F64 x0 x1 x2 x3 g K) : Ok Try.prog 64 [x0, x1, x2, x3] g K := by
  refine ok_fw Try.mixed Try.func64 (by kernel_rfl) (by kernel_rfl) (c := nd64 []) (by kernel_rfl) fun wf lt => ?_
  rw [← en64_eq]
  replace h := h wf lt
  generalize hs : startL _ = tm
  replace h : F64 (tm 0) (tm 1) (tm 2) (tm 3) g K := by rw [← hs]; exact h
  refine seq_i (a := nd64 [0]) (b := nd64 [1]) (k' := kj64_0  K) (by kernel_rfl) (fun st h => J64_0_ok  K st.tm st.g h) ?_
  try unfold F64 at h
  unfold kj64_0
  generalize @J64_0 = Q64_0 at h ⊢
  refine code2_sound ok_mono _ _ _ ?_
  refine kmp ?_ h
  generalize Ok Try.prog = C
  try unfold en64
  as_aux_lemma => kernel_rfl

/-! (*parapet/parapetref12.Queue).All (61 slots) -/
noncomputable def en65 (K : LV → LHeap → Prop) : LEx → LSt → Prop := fun e st => match e with
  | .exit _ => False
  | _ => K (st.tm 2) st.g
theorem en65_eq (K : LV → LHeap → Prop) : en65 K = endL Try.prog Try.f65 K := by
  funext e st
  cases e <;> kernel_rfl
noncomputable def nd65 (p : List Nat) : Code := subC p (bodyC Try.prog 65)
noncomputable def J65_2 (x3 : LV) (g : LHeap)  (K : LV → LHeap → Prop) : Prop :=
  K x3 g
abbrev kj65_2  (K : LV → LHeap → Prop) : LSt → Prop := fun st => J65_2 (st.tm 3) st.g  K
theorem J65_2_ok  (K : LV → LHeap → Prop) (tm : Nat → LV) (g : LHeap) (h : J65_2 (tm 3) g  K) : codeL Try.prog (Ok Try.prog) (nd65 [1, 1, 1]) ⟨tm, g⟩ (en65 K) := by
  try unfold J65_2 at h
  refine code2_sound ok_mono _ _ _ ?_
  refine kmp ?_ h
  generalize Ok Try.prog = C
  try unfold en65
  as_aux_lemma => kernel_rfl

noncomputable def J65_7 (x3 x11 x12 x13 : LV) (g : LHeap) (N4 : LV × LV → LHeap → Prop) (K : LV → LHeap → Prop) : Prop :=
  vK (binL Try.prog .add 3 true x13 (.int .i64 (1))) fun t59 =>
  N4 (x3, t59) g
abbrev kj65_7 (R4 : LV × LV → LV × LV → LHeap → Prop) (K : LV → LHeap → Prop) : LSt → Prop := fun st => J65_7 (st.tm 3) (st.tm 11) (st.tm 12) (st.tm 13) st.g (fun s g => R4 ((st.tm 11), (st.tm 12)) s g) K
theorem J65_7_ok (R4 : LV × LV → LV × LV → LHeap → Prop) (K : LV → LHeap → Prop) (tm : Nat → LV) (g : LHeap) (h : J65_7 (tm 3) (tm 11) (tm 12) (tm 13) g (fun s g => R4 ((tm 11), (tm 12)) s g) K) : codeL Try.prog (Ok Try.prog) (nd65 [1, 1, 0, 1, 0, 0, 1, 1, 1]) ⟨tm, g⟩ (roundK (fun tm : Nat → LV => (tm 11, tm 12)) (fun tm : Nat → LV => (tm 3, tm 13)) R4 (exitL 0 (thenL (kj65_2  K) (en65 K)))) := by
  try unfold J65_7 at h
  unfold kj65_2
  generalize @J65_2 = Q65_2 at h ⊢
  refine code2_sound ok_mono _ _ _ ?_
  refine kmp ?_ h
  generalize Ok Try.prog = C
  try unfold en65
  as_aux_lemma => kernel_rfl

noncomputable def J65_10 (x3 x5 x6 x11 x12 x13 : LV) (g : LHeap) (N4 : LV × LV → LHeap → Prop) (K : LV → LHeap → Prop) : Prop :=
  vK (lenL Try.prog 24 x3 g) fun t34 =>
  vK (binL Try.prog .lss 3 false x6 t34) fun t35 =>
  gdV t35 true (some x3) fun t37 =>
  gdV t35 true (some x6) fun t38 =>
  gdV t35 true (ixAddrL none 1 t37 t38) fun t39 =>
  gdV t35 true (loadV none t39 g) fun t40 =>
  gdV t35 true (fieldAddrL 0 x5) fun t41 =>
  gdV t35 true (loadV none t41 g) fun t42 =>
  gdV t35 true (binL Try.prog .eql 3 false t40 t42) fun t43 =>
  vK (pickL t35 t43 (.bool false)) fun t44 =>
  ifB t44 (
  J65_7 x3 x11 x12 x13 g N4 K) (
  oK (buildSliceL Try.prog 24 0 [] g) fun t45 g =>
  vK (cutT Try.prog 24 x3 none (some x6) none (limL x3 g)) fun t48 =>
  oK (builtinL Try.prog .append [24, 24] [t45, t48] g) fun t49 g =>
  vK (fieldAddrL 0 x5) fun t51 =>
  vK (loadV none t51 g) fun t52 =>
  vK (cutT Try.prog 24 x3 (some x6) none none (limL x3 g)) fun t57 =>
  ((oK (buildSliceL Try.prog 24 1 [(0, t52)] g) fun t53 g =>
  
  ((oK (builtinL Try.prog .append [24, 24] [t49, t53] g) fun t54 g =>
  
  ((oK (builtinL Try.prog .append [24, 24] [t54, t57] g) fun t58 g =>
  
  J65_7 t58 x11 x12 x13 g N4 K) ∧ True)) ∧ True)) ∧ True))
abbrev kj65_10 (R4 : LV × LV → LV × LV → LHeap → Prop) (K : LV → LHeap → Prop) : LSt → Prop := fun st => J65_10 (st.tm 3) (st.tm 5) (st.tm 6) (st.tm 11) (st.tm 12) (st.tm 13) st.g (fun s g => R4 ((st.tm 11), (st.tm 12)) s g) K
theorem J65_10_ok (R4 : LV × LV → LV × LV → LHeap → Prop) (K : LV → LHeap → Prop) (tm : Nat → LV) (g : LHeap) (h : J65_10 (tm 3) (tm 5) (tm 6) (tm 11) (tm 12) (tm 13) g (fun s g => R4 ((tm 11), (tm 12)) s g) K) : codeL Try.prog (Ok Try.prog) (nd65 [1, 1, 0, 1, 0, 0, 1, 1, 0, 0, 1, 1, 1]) ⟨tm, g⟩ (exitL 1 (thenL (kj65_7 R4 K) (roundK (fun tm : Nat → LV => (tm 11, tm 12)) (fun tm : Nat → LV => (tm 3, tm 13)) R4 (exitL 0 (thenL (kj65_2  K) (en65 K)))))) := by
  try unfold J65_10 at h
  unfold kj65_7
  generalize @J65_7 = Q65_7 at h ⊢
  unfold kj65_2
  generalize @J65_2 = Q65_2 at h ⊢
  refine code3_sound ok_mono (pl := [(8, (.lt 0 false (.lt 1 false (.lt 2 false (.lt 3 false (.lt 4 false (.lt 5 false (.lt 6 false (.lt 7 false (.lt 8 false (.lt 9 false (.lt 10 false (.lt 11 false (.lt 12 false .nil))))))))))))))]) _ _ _ (by kernel_rfl) ?_
  refine kmp ?_ h
  generalize Ok Try.prog = C
  try unfold en65
  as_aux_lemma => kernel_rfl

noncomputable def L65_11 (x3 x5 x11 x12 x13 : LV) (x6 : LV) (g : LHeap) (N11 : LV → LHeap → Prop) (N4 : LV × LV → LHeap → Prop) (K : LV → LHeap → Prop) : Prop :=
  vK (lenL Try.prog 24 x3 g) fun t19 =>
  vK (binL Try.prog .lss 3 false x6 t19) fun t20 =>
  gdV t20 true (some x3) fun t22 =>
  gdV t20 true (some x6) fun t23 =>
  gdV t20 true (ixAddrL none 1 t22 t23) fun t24 =>
  gdV t20 true (loadV none t24 g) fun t25 =>
  gdV t20 true (fieldAddrL 0 x5) fun t26 =>
  gdV t20 true (loadV none t26 g) fun t27 =>
  gdV t20 true (binL Try.prog .lss 3 false t25 t27) fun t28 =>
  vK (pickL t20 t28 (.bool false)) fun t29 =>
  ifB t29 (
  vK (binL Try.prog .add 3 true x6 (.int .i64 (1))) fun t31 =>
  N11 t31 g) (
  J65_10 x3 x5 x6 x11 x12 x13 g N4 K)
theorem L65_11_ok (R11 : LV × LV × LV × LV × LV → LV → LHeap → Prop) (R4 : LV × LV → LV × LV → LHeap → Prop) (K : LV → LHeap → Prop) (tm : Nat → LV) (g : LHeap) (h : L65_11 (tm 3) (tm 5) (tm 11) (tm 12) (tm 13) (tm 6) g (fun s g => R11 ((tm 3), (tm 5), (tm 11), (tm 12), (tm 13)) s g) (fun s g => R4 ((tm 11), (tm 12)) s g) K) : codeL Try.prog (Ok Try.prog) (nd65 [1, 1, 0, 1, 0, 0, 1, 1, 0, 0, 1, 1, 0, 0, 0]) ⟨tm, g⟩ (roundK (fun tm : Nat → LV => (tm 3, tm 5, tm 11, tm 12, tm 13)) (fun tm : Nat → LV => tm 6) R11 (exitL 2 (thenL (kj65_10 R4 K) (exitL 1 (thenL (kj65_7 R4 K) (roundK (fun tm : Nat → LV => (tm 11, tm 12)) (fun tm : Nat → LV => (tm 3, tm 13)) R4 (exitL 0 (thenL (kj65_2  K) (en65 K))))))))) := by
  try unfold L65_11 at h
  unfold kj65_10
  generalize @J65_10 = Q65_10 at h ⊢
  unfold kj65_7
  generalize @J65_7 = Q65_7 at h ⊢
  unfold kj65_2
  generalize @J65_2 = Q65_2 at h ⊢
  refine code3_sound ok_mono (pl := [(6, (.lt 0 false (.lt 1 false (.lt 2 false (.lt 3 false (.lt 4 false (.lt 5 false (.lt 6 false (.lt 7 false (.lt 8 false (.lt 9 false (.lt 10 false (.lt 11 false (.lt 12 false .nil))))))))))))))]) _ _ _ (by kernel_rfl) ?_
  refine kmp ?_ h
  generalize Ok Try.prog = C
  try unfold en65
  as_aux_lemma => kernel_rfl

noncomputable def J65_9 (x3 x5 x6 x11 x12 x13 : LV) (g : LHeap) (N4 : LV × LV → LHeap → Prop) (K : LV → LHeap → Prop) : Prop :=
  loopP (fun s g N => L65_11 x3 x5 x11 x12 x13 s g N N4 K) x6 g
abbrev kj65_9 (R4 : LV × LV → LV × LV → LHeap → Prop) (K : LV → LHeap → Prop) : LSt → Prop := fun st => J65_9 (st.tm 3) (st.tm 5) (st.tm 6) (st.tm 11) (st.tm 12) (st.tm 13) st.g (fun s g => R4 ((st.tm 11), (st.tm 12)) s g) K
theorem J65_9_ok (R4 : LV × LV → LV × LV → LHeap → Prop) (K : LV → LHeap → Prop) (tm : Nat → LV) (g : LHeap) (h : J65_9 (tm 3) (tm 5) (tm 6) (tm 11) (tm 12) (tm 13) g (fun s g => R4 ((tm 11), (tm 12)) s g) K) : codeL Try.prog (Ok Try.prog) (nd65 [1, 1, 0, 1, 0, 0, 1, 1, 0, 0, 1, 1]) ⟨tm, g⟩ (exitL 1 (thenL (kj65_7 R4 K) (roundK (fun tm : Nat → LV => (tm 11, tm 12)) (fun tm : Nat → LV => (tm 3, tm 13)) R4 (exitL 0 (thenL (kj65_2  K) (en65 K)))))) := by
  refine seq_i (a := nd65 [1, 1, 0, 1, 0, 0, 1, 1, 0, 0, 1, 1, 0]) (b := nd65 [1, 1, 0, 1, 0, 0, 1, 1, 0, 0, 1, 1, 1]) (k' := kj65_10 R4 K) (by kernel_rfl) (fun st h => J65_10_ok R4 K st.tm st.g h) ?_
  refine block_i (b := nd65 [1, 1, 0, 1, 0, 0, 1, 1, 0, 0, 1, 1, 0, 0]) (i := 2) (by kernel_rfl) ?_
  exact loop_glue (b := nd65 [1, 1, 0, 1, 0, 0, 1, 1, 0, 0, 1, 1, 0, 0, 0]) (by kernel_rfl) (fun tm : Nat → LV => (tm 3, tm 5, tm 11, tm 12, tm 13)) (fun tm : Nat → LV => tm 6) (fun a s g N => L65_11 a.1 a.2.1 a.2.2.1 a.2.2.2.1 a.2.2.2.2 s g N (fun s g => R4 ((a.2.2.1), (a.2.2.2.1)) s g) K) (fun tm g R h => L65_11_ok R R4 K tm g h) tm g h

noncomputable def J65_8 (x3 x5 x11 x12 x13 : LV) (g : LHeap) (N4 : LV × LV → LHeap → Prop) (K : LV → LHeap → Prop) : Prop :=
  J65_9 x3 x5 (.int .i64 (0)) x11 x12 x13 g N4 K
abbrev kj65_8 (R4 : LV × LV → LV × LV → LHeap → Prop) (K : LV → LHeap → Prop) : LSt → Prop := fun st => J65_8 (st.tm 3) (st.tm 5) (st.tm 11) (st.tm 12) (st.tm 13) st.g (fun s g => R4 ((st.tm 11), (st.tm 12)) s g) K
theorem J65_8_ok (R4 : LV × LV → LV × LV → LHeap → Prop) (K : LV → LHeap → Prop) (tm : Nat → LV) (g : LHeap) (h : J65_8 (tm 3) (tm 5) (tm 11) (tm 12) (tm 13) g (fun s g => R4 ((tm 11), (tm 12)) s g) K) : codeL Try.prog (Ok Try.prog) (nd65 [1, 1, 0, 1, 0, 0, 1, 1, 0, 0, 1]) ⟨tm, g⟩ (exitL 1 (thenL (kj65_7 R4 K) (roundK (fun tm : Nat → LV => (tm 11, tm 12)) (fun tm : Nat → LV => (tm 3, tm 13)) R4 (exitL 0 (thenL (kj65_2  K) (en65 K)))))) := by
  refine seq_i (a := nd65 [1, 1, 0, 1, 0, 0, 1, 1, 0, 0, 1, 0]) (b := nd65 [1, 1, 0, 1, 0, 0, 1, 1, 0, 0, 1, 1]) (k' := kj65_9 R4 K) (by kernel_rfl) (fun st h => J65_9_ok R4 K st.tm st.g h) ?_
  try unfold J65_8 at h
  unfold kj65_9
  generalize @J65_9 = Q65_9 at h ⊢
  unfold kj65_7
  generalize @J65_7 = Q65_7 at h ⊢
  unfold kj65_2
  generalize @J65_2 = Q65_2 at h ⊢
  refine code2_sound ok_mono _ _ _ ?_
  refine kmp ?_ h
  generalize Ok Try.prog = C
  try unfold en65
  as_aux_lemma => kernel_rfl

noncomputable def J65_6 (x3 x11 x12 x13 : LV) (g : LHeap) (N4 : LV × LV → LHeap → Prop) (K : LV → LHeap → Prop) : Prop :=
  vK (ixAddrL none 5 x11 x13) fun t15 =>
  vK (loadV (some 5) t15 g) fun t16 =>
  oK (newL (.agg [(.int .i64 (0)), (.int .i64 (0)), (.int .i64 (0)), (.int .i64 (0)), (.int .i64 (0))]) g) fun t5 g =>
  gK (storeV 5 t5 t16 g) fun g =>
  J65_8 x3 t5 x11 x12 x13 g N4 K
abbrev kj65_6 (R4 : LV × LV → LV × LV → LHeap → Prop) (K : LV → LHeap → Prop) : LSt → Prop := fun st => J65_6 (st.tm 3) (st.tm 11) (st.tm 12) (st.tm 13) st.g (fun s g => R4 ((st.tm 11), (st.tm 12)) s g) K
theorem J65_6_ok (R4 : LV × LV → LV × LV → LHeap → Prop) (K : LV → LHeap → Prop) (tm : Nat → LV) (g : LHeap) (h : J65_6 (tm 3) (tm 11) (tm 12) (tm 13) g (fun s g => R4 ((tm 11), (tm 12)) s g) K) : codeL Try.prog (Ok Try.prog) (nd65 [1, 1, 0, 1, 0, 0, 1, 1]) ⟨tm, g⟩ (roundK (fun tm : Nat → LV => (tm 11, tm 12)) (fun tm : Nat → LV => (tm 3, tm 13)) R4 (exitL 0 (thenL (kj65_2  K) (en65 K)))) := by
  refine seq_i (a := nd65 [1, 1, 0, 1, 0, 0, 1, 1, 0]) (b := nd65 [1, 1, 0, 1, 0, 0, 1, 1, 1]) (k' := kj65_7 R4 K) (by kernel_rfl) (fun st h => J65_7_ok R4 K st.tm st.g h) ?_
  refine block_i (b := nd65 [1, 1, 0, 1, 0, 0, 1, 1, 0, 0]) (i := 1) (by kernel_rfl) ?_
  refine seq_i (a := nd65 [1, 1, 0, 1, 0, 0, 1, 1, 0, 0, 0]) (b := nd65 [1, 1, 0, 1, 0, 0, 1, 1, 0, 0, 1]) (k' := kj65_8 R4 K) (by kernel_rfl) (fun st h => J65_8_ok R4 K st.tm st.g h) ?_
  try unfold J65_6 at h
  unfold kj65_8
  generalize @J65_8 = Q65_8 at h ⊢
  unfold kj65_7
  generalize @J65_7 = Q65_7 at h ⊢
  unfold kj65_2
  generalize @J65_2 = Q65_2 at h ⊢
  refine code2_sound ok_mono _ _ _ ?_
  refine kmp ?_ h
  generalize Ok Try.prog = C
  try unfold en65
  as_aux_lemma => kernel_rfl

noncomputable def J65_5 (x3 x11 x12 x13 x14 : LV) (g : LHeap) (N4 : LV × LV → LHeap → Prop) (K : LV → LHeap → Prop) : Prop :=
  ifB x14 (
  J65_6 x3 x11 x12 x13 g N4 K) (
  J65_2 x3 g  K)
abbrev kj65_5 (R4 : LV × LV → LV × LV → LHeap → Prop) (K : LV → LHeap → Prop) : LSt → Prop := fun st => J65_5 (st.tm 3) (st.tm 11) (st.tm 12) (st.tm 13) (st.tm 14) st.g (fun s g => R4 ((st.tm 11), (st.tm 12)) s g) K
theorem J65_5_ok (R4 : LV × LV → LV × LV → LHeap → Prop) (K : LV → LHeap → Prop) (tm : Nat → LV) (g : LHeap) (h : J65_5 (tm 3) (tm 11) (tm 12) (tm 13) (tm 14) g (fun s g => R4 ((tm 11), (tm 12)) s g) K) : codeL Try.prog (Ok Try.prog) (nd65 [1, 1, 0, 1, 0, 0, 1]) ⟨tm, g⟩ (roundK (fun tm : Nat → LV => (tm 11, tm 12)) (fun tm : Nat → LV => (tm 3, tm 13)) R4 (exitL 0 (thenL (kj65_2  K) (en65 K)))) := by
  refine seq_i (a := nd65 [1, 1, 0, 1, 0, 0, 1, 0]) (b := nd65 [1, 1, 0, 1, 0, 0, 1, 1]) (k' := kj65_6 R4 K) (by kernel_rfl) (fun st h => J65_6_ok R4 K st.tm st.g h) ?_
  try unfold J65_5 at h
  unfold kj65_6
  generalize @J65_6 = Q65_6 at h ⊢
  unfold kj65_2
  generalize @J65_2 = Q65_2 at h ⊢
  refine code2_sound ok_mono _ _ _ ?_
  refine kmp ?_ h
  generalize Ok Try.prog = C
  try unfold en65
  as_aux_lemma => kernel_rfl

noncomputable def L65_4 (x11 x12 : LV) (x3 x13 : LV) (g : LHeap) (N4 : LV × LV → LHeap → Prop) (K : LV → LHeap → Prop) : Prop :=
  vK (binL Try.prog .lss 3 false x13 x12) fun t14 =>
  J65_5 x3 x11 x12 x13 t14 g N4 K
theorem L65_4_ok (R4 : LV × LV → LV × LV → LHeap → Prop) (K : LV → LHeap → Prop) (tm : Nat → LV) (g : LHeap) (h : L65_4 (tm 11) (tm 12) (tm 3) (tm 13) g (fun s g => R4 ((tm 11), (tm 12)) s g) K) : codeL Try.prog (Ok Try.prog) (nd65 [1, 1, 0, 1, 0, 0]) ⟨tm, g⟩ (roundK (fun tm : Nat → LV => (tm 11, tm 12)) (fun tm : Nat → LV => (tm 3, tm 13)) R4 (exitL 0 (thenL (kj65_2  K) (en65 K)))) := by
  refine seq_i (a := nd65 [1, 1, 0, 1, 0, 0, 0]) (b := nd65 [1, 1, 0, 1, 0, 0, 1]) (k' := kj65_5 R4 K) (by kernel_rfl) (fun st h => J65_5_ok R4 K st.tm st.g h) ?_
  try unfold L65_4 at h
  unfold kj65_5
  generalize @J65_5 = Q65_5 at h ⊢
  unfold kj65_2
  generalize @J65_2 = Q65_2 at h ⊢
  refine code2_sound ok_mono _ _ _ ?_
  refine kmp ?_ h
  generalize Ok Try.prog = C
  try unfold en65
  as_aux_lemma => kernel_rfl

noncomputable def J65_3 (x3 x11 x12 x13 : LV) (g : LHeap)  (K : LV → LHeap → Prop) : Prop :=
  loopP (fun s g N => L65_4 x11 x12 s.1 s.2 g N  K) (x3, x13) g
abbrev kj65_3  (K : LV → LHeap → Prop) : LSt → Prop := fun st => J65_3 (st.tm 3) (st.tm 11) (st.tm 12) (st.tm 13) st.g  K
theorem J65_3_ok  (K : LV → LHeap → Prop) (tm : Nat → LV) (g : LHeap) (h : J65_3 (tm 3) (tm 11) (tm 12) (tm 13) g  K) : codeL Try.prog (Ok Try.prog) (nd65 [1, 1, 0, 1]) ⟨tm, g⟩ (thenL (kj65_2  K) (en65 K)) := by
  refine block_i (b := nd65 [1, 1, 0, 1, 0]) (i := 0) (by kernel_rfl) ?_
  exact loop_glue (b := nd65 [1, 1, 0, 1, 0, 0]) (by kernel_rfl) (fun tm : Nat → LV => (tm 11, tm 12)) (fun tm : Nat → LV => (tm 3, tm 13)) (fun a s g N => L65_4 a.1 a.2 s.1 s.2 g N  K) (fun tm g R h => L65_4_ok R  K tm g h) tm g h

noncomputable def J65_1 (x0 x3 : LV) (g : LHeap)  (K : LV → LHeap → Prop) : Prop :=
  vK (nilCheckL x0) fun t9 =>
  vK (fieldAddrL 0 t9) fun t10 =>
  vK (loadV none t10 g) fun t11 =>
  oK (builtinL Try.prog .len [73] [t11] g) fun t12 g =>
  J65_3 x3 t11 t12 (.int .i64 (0)) g  K
abbrev kj65_1  (K : LV → LHeap → Prop) : LSt → Prop := fun st => J65_1 (st.tm 0) (st.tm 3) st.g  K
theorem J65_1_ok  (K : LV → LHeap → Prop) (tm : Nat → LV) (g : LHeap) (h : J65_1 (tm 0) (tm 3) g  K) : codeL Try.prog (Ok Try.prog) (nd65 [1, 1]) ⟨tm, g⟩ (en65 K) := by
  refine seq_i (a := nd65 [1, 1, 0]) (b := nd65 [1, 1, 1]) (k' := kj65_2  K) (by kernel_rfl) (fun st h => J65_2_ok  K st.tm st.g h) ?_
  refine seq_i (a := nd65 [1, 1, 0, 0]) (b := nd65 [1, 1, 0, 1]) (k' := kj65_3  K) (by kernel_rfl) (fun st h => J65_3_ok  K st.tm st.g h) ?_
  try unfold J65_1 at h
  unfold kj65_3
  generalize @J65_3 = Q65_3 at h ⊢
  unfold kj65_2
  generalize @J65_2 = Q65_2 at h ⊢
  refine code2_sound ok_mono _ _ _ ?_
  refine kmp ?_ h
  generalize Ok Try.prog = C
  try unfold en65
  as_aux_lemma => kernel_rfl

noncomputable def J65_0 (x0 : LV) (g : LHeap)  (K : LV → LHeap → Prop) : Prop :=
  J65_1 x0 .nils g  K
abbrev kj65_0  (K : LV → LHeap → Prop) : LSt → Prop := fun st => J65_0 (st.tm 0) st.g  K
theorem J65_0_ok  (K : LV → LHeap → Prop) (tm : Nat → LV) (g : LHeap) (h : J65_0 (tm 0) g  K) : codeL Try.prog (Ok Try.prog) (nd65 [1]) ⟨tm, g⟩ (en65 K) := by
  refine seq_i (a := nd65 [1, 0]) (b := nd65 [1, 1]) (k' := kj65_1  K) (by kernel_rfl) (fun st h => J65_1_ok  K st.tm st.g h) ?_
  try unfold J65_0 at h
  unfold kj65_1
  generalize @J65_1 = Q65_1 at h ⊢
  refine code2_sound ok_mono _ _ _ ?_
  refine kmp ?_ h
  generalize Ok Try.prog = C
  try unfold en65
  as_aux_lemma => kernel_rfl

noncomputable def F65 (x0 : LV) (g : LHeap) (K : LV → LHeap → Prop) : Prop :=
  J65_0 x0 g  K
theorem ok65 {x0 : LV} {g : LHeap} {K : LV → LHeap → Prop} (h : g.Wf → (∀ v ∈ ([x0] : List LV), ∀ b ∈ v.objs, b < g.next) → F65 x0 g K) : Ok Try.prog 65 [x0] g K := by
  refine ok_fw Try.mixed Try.func65 (by kernel_rfl) (by kernel_rfl) (c := nd65 []) (by kernel_rfl) fun wf lt => ?_
  rw [← en65_eq]
  replace h := h wf lt
  generalize hs : startL _ = tm
  replace h : F65 (tm 0) g K := by rw [← hs]; exact h
  refine seq_i (a := nd65 [0]) (b := nd65 [1]) (k' := kj65_0  K) (by kernel_rfl) (fun st h => J65_0_ok  K st.tm st.g h) ?_
  try unfold F65 at h
  unfold kj65_0
  generalize @J65_0 = Q65_0 at h ⊢
  refine code2_sound ok_mono _ _ _ ?_
  refine kmp ?_ h
  generalize Ok Try.prog = C
  try unfold en65
  as_aux_lemma => kernel_rfl

/-! (*parapet/parapetref12.Queue).Sleepers (28 slots) -/
noncomputable def en66 (K : LV → LHeap → Prop) : LEx → LSt → Prop := fun e st => match e with
  | .exit _ => False
  | _ => K (st.tm 4) st.g
theorem en66_eq (K : LV → LHeap → Prop) : en66 K = endL Try.prog Try.f66 K := by
  funext e st
  cases e <;> kernel_rfl
noncomputable def nd66 (p : List Nat) : Code := subC p (bodyC Try.prog 66)
noncomputable def J66_2 (x5 : LV) (g : LHeap)  (K : LV → LHeap → Prop) : Prop :=
  K x5 g
abbrev kj66_2  (K : LV → LHeap → Prop) : LSt → Prop := fun st => J66_2 (st.tm 5) st.g  K
theorem J66_2_ok  (K : LV → LHeap → Prop) (tm : Nat → LV) (g : LHeap) (h : J66_2 (tm 5) g  K) : codeL Try.prog (Ok Try.prog) (nd66 [1, 1, 1]) ⟨tm, g⟩ (en66 K) := by
  try unfold J66_2 at h
  refine code2_sound ok_mono _ _ _ ?_
  refine kmp ?_ h
  generalize Ok Try.prog = C
  try unfold en66
  as_aux_lemma => kernel_rfl

noncomputable def L66_4 (x3 x11 x12 : LV) (x5 x13 : LV) (g : LHeap) (N4 : LV × LV → LHeap → Prop) (K : LV → LHeap → Prop) : Prop :=
  vK (binL Try.prog .lss 3 false x13 x12) fun t14 =>
  ifB t14 (
  vK (ixAddrL none 5 x11 x13) fun t15 =>
  vK (loadV (some 5) t15 g) fun t16 =>
  oK (newL (.agg [(.int .i64 (0)), (.int .i64 (0)), (.int .i64 (0)), (.int .i64 (0)), (.int .i64 (0))]) g) fun t7 g =>
  gK (storeV 5 t7 t16 g) fun g =>
  vK (fieldAddrL 1 t7) fun t17 =>
  vK (loadV (some 3) t17 g) fun t18 =>
  vK (loadV (some 3) x3 g) fun t19 =>
  vK (binL Try.prog .eql 23 false t18 t19) fun t20 =>
  ifB t20 (
  vK (fieldAddrL 0 t7) fun t22 =>
  vK (loadV none t22 g) fun t23 =>
  oK (buildSliceL Try.prog 24 1 [(0, t23)] g) fun t24 g =>
  oK (builtinL Try.prog .append [24, 24] [x5, t24] g) fun t25 g =>
  vK (binL Try.prog .add 3 true x13 (.int .i64 (1))) fun t26 =>
  N4 (t25, t26) g) (
  vK (binL Try.prog .add 3 true x13 (.int .i64 (1))) fun t26 =>
  N4 (x5, t26) g)) (
  J66_2 x5 g  K)
theorem L66_4_ok (R4 : LV × LV × LV → LV × LV → LHeap → Prop) (K : LV → LHeap → Prop) (tm : Nat → LV) (g : LHeap) (h : L66_4 (tm 3) (tm 11) (tm 12) (tm 5) (tm 13) g (fun s g => R4 ((tm 3), (tm 11), (tm 12)) s g) K) : codeL Try.prog (Ok Try.prog) (nd66 [1, 1, 0, 1, 0, 0]) ⟨tm, g⟩ (roundK (fun tm : Nat → LV => (tm 3, tm 11, tm 12)) (fun tm : Nat → LV => (tm 5, tm 13)) R4 (exitL 0 (thenL (kj66_2  K) (en66 K)))) := by
  try unfold L66_4 at h
  unfold kj66_2
  generalize @J66_2 = Q66_2 at h ⊢
  refine code2_sound ok_mono _ _ _ ?_
  refine kmp ?_ h
  generalize Ok Try.prog = C
  try unfold en66
  as_aux_lemma => kernel_rfl

noncomputable def J66_3 (x3 x5 x11 x12 x13 : LV) (g : LHeap)  (K : LV → LHeap → Prop) : Prop :=
  loopP (fun s g N => L66_4 x3 x11 x12 s.1 s.2 g N  K) (x5, x13) g
abbrev kj66_3  (K : LV → LHeap → Prop) : LSt → Prop := fun st => J66_3 (st.tm 3) (st.tm 5) (st.tm 11) (st.tm 12) (st.tm 13) st.g  K
theorem J66_3_ok  (K : LV → LHeap → Prop) (tm : Nat → LV) (g : LHeap) (h : J66_3 (tm 3) (tm 5) (tm 11) (tm 12) (tm 13) g  K) : codeL Try.prog (Ok Try.prog) (nd66 [1, 1, 0, 1]) ⟨tm, g⟩ (thenL (kj66_2  K) (en66 K)) := by
  refine block_i (b := nd66 [1, 1, 0, 1, 0]) (i := 0) (by kernel_rfl) ?_
  exact loop_glue (b := nd66 [1, 1, 0, 1, 0, 0]) (by kernel_rfl) (fun tm : Nat → LV => (tm 3, tm 11, tm 12)) (fun tm : Nat → LV => (tm 5, tm 13)) (fun a s g N => L66_4 a.1 a.2.1 a.2.2 s.1 s.2 g N  K) (fun tm g R h => L66_4_ok R  K tm g h) tm g h

noncomputable def J66_1 (x0 x3 x5 : LV) (g : LHeap)  (K : LV → LHeap → Prop) : Prop :=
  vK (nilCheckL x0) fun t9 =>
  vK (fieldAddrL 0 t9) fun t10 =>
  vK (loadV none t10 g) fun t11 =>
  oK (builtinL Try.prog .len [73] [t11] g) fun t12 g =>
  J66_3 x3 x5 t11 t12 (.int .i64 (0)) g  K
abbrev kj66_1  (K : LV → LHeap → Prop) : LSt → Prop := fun st => J66_1 (st.tm 0) (st.tm 3) (st.tm 5) st.g  K
theorem J66_1_ok  (K : LV → LHeap → Prop) (tm : Nat → LV) (g : LHeap) (h : J66_1 (tm 0) (tm 3) (tm 5) g  K) : codeL Try.prog (Ok Try.prog) (nd66 [1, 1]) ⟨tm, g⟩ (en66 K) := by
  refine seq_i (a := nd66 [1, 1, 0]) (b := nd66 [1, 1, 1]) (k' := kj66_2  K) (by kernel_rfl) (fun st h => J66_2_ok  K st.tm st.g h) ?_
  refine seq_i (a := nd66 [1, 1, 0, 0]) (b := nd66 [1, 1, 0, 1]) (k' := kj66_3  K) (by kernel_rfl) (fun st h => J66_3_ok  K st.tm st.g h) ?_
  try unfold J66_1 at h
  unfold kj66_3
  generalize @J66_3 = Q66_3 at h ⊢
  unfold kj66_2
  generalize @J66_2 = Q66_2 at h ⊢
  refine code2_sound ok_mono _ _ _ ?_
  refine kmp ?_ h
  generalize Ok Try.prog = C
  try unfold en66
  as_aux_lemma => kernel_rfl

noncomputable def J66_0 (x0 x3 : LV) (g : LHeap)  (K : LV → LHeap → Prop) : Prop :=
  J66_1 x0 x3 .nils g  K
abbrev kj66_0  (K : LV → LHeap → Prop) : LSt → Prop := fun st => J66_0 (st.tm 0) (st.tm 3) st.g  K
theorem J66_0_ok  (K : LV → LHeap → Prop) (tm : Nat → LV) (g : LHeap) (h : J66_0 (tm 0) (tm 3) g  K) : codeL Try.prog (Ok Try.prog) (nd66 [1]) ⟨tm, g⟩ (en66 K) := by
  refine seq_i (a := nd66 [1, 0]) (b := nd66 [1, 1]) (k' := kj66_1  K) (by kernel_rfl) (fun st h => J66_1_ok  K st.tm st.g h) ?_
  try unfold J66_0 at h
  unfold kj66_1
  generalize @J66_1 = Q66_1 at h ⊢
  refine code2_sound ok_mono _ _ _ ?_
  refine kmp ?_ h
  generalize Ok Try.prog = C
  try unfold en66
  as_aux_lemma => kernel_rfl

noncomputable def F66 (x0 x1 : LV) (g : LHeap) (K : LV → LHeap → Prop) : Prop :=
  oK (newL x1 g) fun t3 g =>
  J66_0 x0 t3 g  K
theorem ok66 {x0 x1 : LV} {g : LHeap} {K : LV → LHeap → Prop} (h : g.Wf → (∀ v ∈ ([x0, x1] : List LV), ∀ b ∈ v.objs, b < g.next) → F66 x0 x1 g K) : Ok Try.prog 66 [x0, x1] g K := by
  refine ok_fw Try.mixed Try.func66 (by kernel_rfl) (by kernel_rfl) (c := nd66 []) (by kernel_rfl) fun wf lt => ?_
  rw [← en66_eq]
  replace h := h wf lt
  generalize hs : startL _ = tm
  replace h : F66 (tm 0) (tm 1) g K := by rw [← hs]; exact h
  refine seq_i (a := nd66 [0]) (b := nd66 [1]) (k' := kj66_0  K) (by kernel_rfl) (fun st h => J66_0_ok  K st.tm st.g h) ?_
  try unfold F66 at h
  unfold kj66_0
  generalize @J66_0 = Q66_0 at h ⊢
  refine code2_sound ok_mono _ _ _ ?_
  refine kmp ?_ h
  generalize Ok Try.prog = C
  try unfold en66
  as_aux_lemma => kernel_rfl

/-! parapet/parapetlaw12.sameChans (26 slots) -/
noncomputable def en67 (K : LV → LHeap → Prop) : LEx → LSt → Prop := fun e st => match e with
  | .exit _ => False
  | _ => K (st.tm 4) st.g
theorem en67_eq (K : LV → LHeap → Prop) : en67 K = endL Try.prog Try.f67 K := by
  funext e st
  cases e <;> kernel_rfl
noncomputable def nd67 (p : List Nat) : Code := subC p (bodyC Try.prog 67)
noncomputable def J67_2 (g : LHeap)  (K : LV → LHeap → Prop) : Prop :=
  K (.bool true) g
abbrev kj67_2  (K : LV → LHeap → Prop) : LSt → Prop := fun st => J67_2  st.g  K
theorem J67_2_ok  (K : LV → LHeap → Prop) (tm : Nat → LV) (g : LHeap) (h : J67_2  g  K) : codeL Try.prog (Ok Try.prog) (nd67 [1, 1, 1]) ⟨tm, g⟩ (en67 K) := by
  try unfold J67_2 at h
  refine code2_sound ok_mono _ _ _ ?_
  refine kmp ?_ h
  generalize Ok Try.prog = C
  try unfold en67
  as_aux_lemma => kernel_rfl

noncomputable def L67_4 (x0 x1 x12 : LV) (x13 : LV) (g : LHeap) (N4 : LV → LHeap → Prop) (K : LV → LHeap → Prop) : Prop :=
  vK (binL Try.prog .lss 3 false x13 x12) fun t14 =>
  ifB t14 (
  vK (ixAddrL none 3 x0 x13) fun t18 =>
  vK (loadV (some 3) t18 g) fun t19 =>
  vK (ixAddrL none 3 x1 x13) fun t22 =>
  vK (loadV (some 3) t22 g) fun t23 =>
  vK (binL Try.prog .neq 23 false t19 t23) fun t24 =>
  ifB t24 (
  K (.bool false) g) (
  vK (binL Try.prog .add 3 true x13 (.int .i64 (1))) fun t25 =>
  N4 t25 g)) (
  J67_2  g  K)
theorem L67_4_ok (R4 : LV × LV × LV → LV → LHeap → Prop) (K : LV → LHeap → Prop) (tm : Nat → LV) (g : LHeap) (h : L67_4 (tm 0) (tm 1) (tm 12) (tm 13) g (fun s g => R4 ((tm 0), (tm 1), (tm 12)) s g) K) : codeL Try.prog (Ok Try.prog) (nd67 [1, 1, 0, 1, 0, 0]) ⟨tm, g⟩ (roundK (fun tm : Nat → LV => (tm 0, tm 1, tm 12)) (fun tm : Nat → LV => tm 13) R4 (exitL 0 (thenL (kj67_2  K) (en67 K)))) := by
  try unfold L67_4 at h
  unfold kj67_2
  generalize @J67_2 = Q67_2 at h ⊢
  refine code2_sound ok_mono _ _ _ ?_
  refine kmp ?_ h
  generalize Ok Try.prog = C
  try unfold en67
  as_aux_lemma => kernel_rfl

noncomputable def J67_3 (x0 x1 x12 x13 : LV) (g : LHeap)  (K : LV → LHeap → Prop) : Prop :=
  loopP (fun s g N => L67_4 x0 x1 x12 s g N  K) x13 g
abbrev kj67_3  (K : LV → LHeap → Prop) : LSt → Prop := fun st => J67_3 (st.tm 0) (st.tm 1) (st.tm 12) (st.tm 13) st.g  K
theorem J67_3_ok  (K : LV → LHeap → Prop) (tm : Nat → LV) (g : LHeap) (h : J67_3 (tm 0) (tm 1) (tm 12) (tm 13) g  K) : codeL Try.prog (Ok Try.prog) (nd67 [1, 1, 0, 1]) ⟨tm, g⟩ (thenL (kj67_2  K) (en67 K)) := by
  refine block_i (b := nd67 [1, 1, 0, 1, 0]) (i := 0) (by kernel_rfl) ?_
  exact loop_glue (b := nd67 [1, 1, 0, 1, 0, 0]) (by kernel_rfl) (fun tm : Nat → LV => (tm 0, tm 1, tm 12)) (fun tm : Nat → LV => tm 13) (fun a s g N => L67_4 a.1 a.2.1 a.2.2 s g N  K) (fun tm g R h => L67_4_ok R  K tm g h) tm g h

noncomputable def J67_1 (x0 x1 : LV) (g : LHeap)  (K : LV → LHeap → Prop) : Prop :=
  oK (builtinL Try.prog .len [30] [x0] g) fun t12 g =>
  J67_3 x0 x1 t12 (.int .i64 (0)) g  K
abbrev kj67_1  (K : LV → LHeap → Prop) : LSt → Prop := fun st => J67_1 (st.tm 0) (st.tm 1) st.g  K
theorem J67_1_ok  (K : LV → LHeap → Prop) (tm : Nat → LV) (g : LHeap) (h : J67_1 (tm 0) (tm 1) g  K) : codeL Try.prog (Ok Try.prog) (nd67 [1, 1]) ⟨tm, g⟩ (en67 K) := by
  refine seq_i (a := nd67 [1, 1, 0]) (b := nd67 [1, 1, 1]) (k' := kj67_2  K) (by kernel_rfl) (fun st h => J67_2_ok  K st.tm st.g h) ?_
  refine seq_i (a := nd67 [1, 1, 0, 0]) (b := nd67 [1, 1, 0, 1]) (k' := kj67_3  K) (by kernel_rfl) (fun st h => J67_3_ok  K st.tm st.g h) ?_
  try unfold J67_1 at h
  unfold kj67_3
  generalize @J67_3 = Q67_3 at h ⊢
  unfold kj67_2
  generalize @J67_2 = Q67_2 at h ⊢
  refine code2_sound ok_mono _ _ _ ?_
  refine kmp ?_ h
  generalize Ok Try.prog = C
  try unfold en67
  as_aux_lemma => kernel_rfl

noncomputable def J67_0 (x0 x1 : LV) (g : LHeap)  (K : LV → LHeap → Prop) : Prop :=
  oK (builtinL Try.prog .len [30] [x0] g) fun t7 g =>
  oK (builtinL Try.prog .len [30] [x1] g) fun t9 g =>
  vK (binL Try.prog .neq 3 false t7 t9) fun t10 =>
  ifB t10 (
  K (.bool false) g) (
  J67_1 x0 x1 g  K)
abbrev kj67_0  (K : LV → LHeap → Prop) : LSt → Prop := fun st => J67_0 (st.tm 0) (st.tm 1) st.g  K
theorem J67_0_ok  (K : LV → LHeap → Prop) (tm : Nat → LV) (g : LHeap) (h : J67_0 (tm 0) (tm 1) g  K) : codeL Try.prog (Ok Try.prog) (nd67 [1]) ⟨tm, g⟩ (en67 K) := by
  refine seq_i (a := nd67 [1, 0]) (b := nd67 [1, 1]) (k' := kj67_1  K) (by kernel_rfl) (fun st h => J67_1_ok  K st.tm st.g h) ?_
  try unfold J67_0 at h
  unfold kj67_1
  generalize @J67_1 = Q67_1 at h ⊢
  refine code2_sound ok_mono _ _ _ ?_
  refine kmp ?_ h
  generalize Ok Try.prog = C
  try unfold en67
  as_aux_lemma => kernel_rfl

noncomputable def F67 (x0 x1 : LV) (g : LHeap) (K : LV → LHeap → Prop) : Prop :=
  J67_0 x0 x1 g  K
theorem ok67 {x0 x1 : LV} {g : LHeap} {K : LV → LHeap → Prop} (h : g.Wf → (∀ v ∈ ([x0, x1] : List LV), ∀ b ∈ v.objs, b < g.next) → F67 x0 x1 g K) : Ok Try.prog 67 [x0, x1] g K := by
  refine ok_fw Try.mixed Try.func67 (by kernel_rfl) (by kernel_rfl) (c := nd67 []) (by kernel_rfl) fun wf lt => ?_
  rw [← en67_eq]
  replace h := h wf lt
  generalize hs : startL _ = tm
  replace h : F67 (tm 0) (tm 1) g K := by rw [← hs]; exact h
  refine seq_i (a := nd67 [0]) (b := nd67 [1]) (k' := kj67_0  K) (by kernel_rfl) (fun st h => J67_0_ok  K st.tm st.g h) ?_
  try unfold F67 at h
  unfold kj67_0
  generalize @J67_0 = Q67_0 at h ⊢
  refine code2_sound ok_mono _ _ _ ?_
  refine kmp ?_ h
  generalize Ok Try.prog = C
  try unfold en67
  as_aux_lemma => kernel_rfl

/-! (*parapet/parapetref12.Queue).On (39 slots) -/
noncomputable def en68 (K : LV → LHeap → Prop) : LEx → LSt → Prop := fun e st => match e with
  | .exit _ => False
  | _ => K (st.tm 4) st.g
theorem en68_eq (K : LV → LHeap → Prop) : en68 K = endL Try.prog Try.f68 K := by
  funext e st
  cases e <;> kernel_rfl
noncomputable def nd68 (p : List Nat) : Code := subC p (bodyC Try.prog 68)
noncomputable def J68_2 (x5 : LV) (g : LHeap)  (K : LV → LHeap → Prop) : Prop :=
  K x5 g
abbrev kj68_2  (K : LV → LHeap → Prop) : LSt → Prop := fun st => J68_2 (st.tm 5) st.g  K
theorem J68_2_ok  (K : LV → LHeap → Prop) (tm : Nat → LV) (g : LHeap) (h : J68_2 (tm 5) g  K) : codeL Try.prog (Ok Try.prog) (nd68 [1, 1, 1]) ⟨tm, g⟩ (en68 K) := by
  try unfold J68_2 at h
  refine code2_sound ok_mono _ _ _ ?_
  refine kmp ?_ h
  generalize Ok Try.prog = C
  try unfold en68
  as_aux_lemma => kernel_rfl

noncomputable def J68_6 (x0 x1 x5 x6 : LV) (g : LHeap) (N4 : LV × LV → LHeap → Prop) (K : LV → LHeap → Prop) : Prop :=
  vK (binL Try.prog .add 3 true x6 (.int .i64 (1))) fun t12 =>
  N4 (x5, t12) g
abbrev kj68_6 (R4 : LV × LV → LV × LV → LHeap → Prop) (K : LV → LHeap → Prop) : LSt → Prop := fun st => J68_6 (st.tm 0) (st.tm 1) (st.tm 5) (st.tm 6) st.g (fun s g => R4 ((st.tm 0), (st.tm 1)) s g) K
theorem J68_6_ok (R4 : LV × LV → LV × LV → LHeap → Prop) (K : LV → LHeap → Prop) (tm : Nat → LV) (g : LHeap) (h : J68_6 (tm 0) (tm 1) (tm 5) (tm 6) g (fun s g => R4 ((tm 0), (tm 1)) s g) K) : codeL Try.prog (Ok Try.prog) (nd68 [1, 1, 0, 1, 0, 0, 1, 1]) ⟨tm, g⟩ (roundK (fun tm : Nat → LV => (tm 0, tm 1)) (fun tm : Nat → LV => (tm 5, tm 6)) R4 (exitL 0 (thenL (kj68_2  K) (en68 K)))) := by
  try unfold J68_6 at h
  unfold kj68_2
  generalize @J68_2 = Q68_2 at h ⊢
  refine code2_sound ok_mono _ _ _ ?_
  refine kmp ?_ h
  generalize Ok Try.prog = C
  try unfold en68
  as_aux_lemma => kernel_rfl

noncomputable def L68_8 (x0 x1 x6 x16 x17 : LV) (x5 x18 : LV) (g : LHeap) (N8 : LV × LV → LHeap → Prop) (N4 : LV × LV → LHeap → Prop) (K : LV → LHeap → Prop) : Prop :=
  vK (binL Try.prog .lss 3 false x18 x17) fun t19 =>
  ifB t19 (
  vK (ixAddrL none 5 x16 x18) fun t20 =>
  vK (loadV (some 5) t20 g) fun t21 =>
  oK (newL (.agg [(.int .i64 (0)), (.int .i64 (0)), (.int .i64 (0)), (.int .i64 (0)), (.int .i64 (0))]) g) fun t8 g =>
  gK (storeV 5 t8 t21 g) fun g =>
  vK (fieldAddrL 0 t8) fun t22 =>
  vK (loadV none t22 g) fun t23 =>
  vK (binL Try.prog .eql 3 false t23 x1) fun t25 =>
  gd t25 true g (fun K => vK (fieldAddrL 4 t8) fun v => K v g) fun t27 g =>
  gd t25 true g (fun K => vK (loadV none t27 g) fun v => K v g) fun t28 g =>
  gd t25 true g (fun K => K x6 g) fun t29 g =>
  gd t25 true g (fun K => vK (binL Try.prog .eql 3 false t28 t29) fun v => K v g) fun t30 g =>
  vK (pickL t25 t30 (.bool false)) fun t31 =>
  ifB t31 (
  vK (fieldAddrL 1 t8) fun t33 =>
  vK (loadV (some 3) t33 g) fun t34 =>
  oK (buildSliceL Try.prog 30 1 [(0, t34)] g) fun t35 g =>
  oK (builtinL Try.prog .append [30, 30] [x5, t35] g) fun t36 g =>
  vK (binL Try.prog .add 3 true x18 (.int .i64 (1))) fun t37 =>
  N8 (t36, t37) g) (
  vK (binL Try.prog .add 3 true x18 (.int .i64 (1))) fun t37 =>
  N8 (x5, t37) g)) (
  J68_6 x0 x1 x5 x6 g N4 K)
theorem L68_8_ok (R8 : LV × LV × LV × LV × LV → LV × LV → LHeap → Prop) (R4 : LV × LV → LV × LV → LHeap → Prop) (K : LV → LHeap → Prop) (tm : Nat → LV) (g : LHeap) (h : L68_8 (tm 0) (tm 1) (tm 6) (tm 16) (tm 17) (tm 5) (tm 18) g (fun s g => R8 ((tm 0), (tm 1), (tm 6), (tm 16), (tm 17)) s g) (fun s g => R4 ((tm 0), (tm 1)) s g) K) : codeL Try.prog (Ok Try.prog) (nd68 [1, 1, 0, 1, 0, 0, 1, 0, 0, 1, 0, 0]) ⟨tm, g⟩ (roundK (fun tm : Nat → LV => (tm 0, tm 1, tm 6, tm 16, tm 17)) (fun tm : Nat → LV => (tm 5, tm 18)) R8 (exitL 2 (exitL 1 (thenL (kj68_6 R4 K) (roundK (fun tm : Nat → LV => (tm 0, tm 1)) (fun tm : Nat → LV => (tm 5, tm 6)) R4 (exitL 0 (thenL (kj68_2  K) (en68 K)))))))) := by
  try unfold L68_8 at h
  unfold kj68_6
  generalize @J68_6 = Q68_6 at h ⊢
  unfold kj68_2
  generalize @J68_2 = Q68_2 at h ⊢
  refine code2_sound ok_mono _ _ _ ?_
  refine kmp ?_ h
  generalize Ok Try.prog = C
  try unfold en68
  as_aux_lemma => kernel_rfl

noncomputable def J68_7 (x0 x1 x5 x6 x16 x17 x18 : LV) (g : LHeap) (N4 : LV × LV → LHeap → Prop) (K : LV → LHeap → Prop) : Prop :=
  loopP (fun s g N => L68_8 x0 x1 x6 x16 x17 s.1 s.2 g N N4 K) (x5, x18) g
abbrev kj68_7 (R4 : LV × LV → LV × LV → LHeap → Prop) (K : LV → LHeap → Prop) : LSt → Prop := fun st => J68_7 (st.tm 0) (st.tm 1) (st.tm 5) (st.tm 6) (st.tm 16) (st.tm 17) (st.tm 18) st.g (fun s g => R4 ((st.tm 0), (st.tm 1)) s g) K
theorem J68_7_ok (R4 : LV × LV → LV × LV → LHeap → Prop) (K : LV → LHeap → Prop) (tm : Nat → LV) (g : LHeap) (h : J68_7 (tm 0) (tm 1) (tm 5) (tm 6) (tm 16) (tm 17) (tm 18) g (fun s g => R4 ((tm 0), (tm 1)) s g) K) : codeL Try.prog (Ok Try.prog) (nd68 [1, 1, 0, 1, 0, 0, 1, 0, 0, 1]) ⟨tm, g⟩ (exitL 1 (thenL (kj68_6 R4 K) (roundK (fun tm : Nat → LV => (tm 0, tm 1)) (fun tm : Nat → LV => (tm 5, tm 6)) R4 (exitL 0 (thenL (kj68_2  K) (en68 K)))))) := by
  refine block_i (b := nd68 [1, 1, 0, 1, 0, 0, 1, 0, 0, 1, 0]) (i := 2) (by kernel_rfl) ?_
  exact loop_glue (b := nd68 [1, 1, 0, 1, 0, 0, 1, 0, 0, 1, 0, 0]) (by kernel_rfl) (fun tm : Nat → LV => (tm 0, tm 1, tm 6, tm 16, tm 17)) (fun tm : Nat → LV => (tm 5, tm 18)) (fun a s g N => L68_8 a.1 a.2.1 a.2.2.1 a.2.2.2.1 a.2.2.2.2 s.1 s.2 g N (fun s g => R4 ((a.1), (a.2.1)) s g) K) (fun tm g R h => L68_8_ok R R4 K tm g h) tm g h

noncomputable def J68_5 (x0 x1 x5 x6 : LV) (g : LHeap) (N4 : LV × LV → LHeap → Prop) (K : LV → LHeap → Prop) : Prop :=
  vK (nilCheckL x0) fun t14 =>
  vK (fieldAddrL 0 t14) fun t15 =>
  vK (loadV none t15 g) fun t16 =>
  oK (builtinL Try.prog .len [73] [t16] g) fun t17 g =>
  J68_7 x0 x1 x5 x6 t16 t17 (.int .i64 (0)) g N4 K
abbrev kj68_5 (R4 : LV × LV → LV × LV → LHeap → Prop) (K : LV → LHeap → Prop) : LSt → Prop := fun st => J68_5 (st.tm 0) (st.tm 1) (st.tm 5) (st.tm 6) st.g (fun s g => R4 ((st.tm 0), (st.tm 1)) s g) K
theorem J68_5_ok (R4 : LV × LV → LV × LV → LHeap → Prop) (K : LV → LHeap → Prop) (tm : Nat → LV) (g : LHeap) (h : J68_5 (tm 0) (tm 1) (tm 5) (tm 6) g (fun s g => R4 ((tm 0), (tm 1)) s g) K) : codeL Try.prog (Ok Try.prog) (nd68 [1, 1, 0, 1, 0, 0, 1]) ⟨tm, g⟩ (roundK (fun tm : Nat → LV => (tm 0, tm 1)) (fun tm : Nat → LV => (tm 5, tm 6)) R4 (exitL 0 (thenL (kj68_2  K) (en68 K)))) := by
  refine seq_i (a := nd68 [1, 1, 0, 1, 0, 0, 1, 0]) (b := nd68 [1, 1, 0, 1, 0, 0, 1, 1]) (k' := kj68_6 R4 K) (by kernel_rfl) (fun st h => J68_6_ok R4 K st.tm st.g h) ?_
  refine block_i (b := nd68 [1, 1, 0, 1, 0, 0, 1, 0, 0]) (i := 1) (by kernel_rfl) ?_
  refine seq_i (a := nd68 [1, 1, 0, 1, 0, 0, 1, 0, 0, 0]) (b := nd68 [1, 1, 0, 1, 0, 0, 1, 0, 0, 1]) (k' := kj68_7 R4 K) (by kernel_rfl) (fun st h => J68_7_ok R4 K st.tm st.g h) ?_
  try unfold J68_5 at h
  unfold kj68_7
  generalize @J68_7 = Q68_7 at h ⊢
  unfold kj68_6
  generalize @J68_6 = Q68_6 at h ⊢
  unfold kj68_2
  generalize @J68_2 = Q68_2 at h ⊢
  refine code2_sound ok_mono _ _ _ ?_
  refine kmp ?_ h
  generalize Ok Try.prog = C
  try unfold en68
  as_aux_lemma => kernel_rfl

noncomputable def L68_4 (x0 x1 : LV) (x5 x6 : LV) (g : LHeap) (N4 : LV × LV → LHeap → Prop) (K : LV → LHeap → Prop) : Prop :=
  vK (binL Try.prog .lss 3 true x6 (.int .i64 (16))) fun t10 =>
  ifB t10 (
  J68_5 x0 x1 x5 x6 g N4 K) (
  J68_2 x5 g  K)
theorem L68_4_ok (R4 : LV × LV → LV × LV → LHeap → Prop) (K : LV → LHeap → Prop) (tm : Nat → LV) (g : LHeap) (h : L68_4 (tm 0) (tm 1) (tm 5) (tm 6) g (fun s g => R4 ((tm 0), (tm 1)) s g) K) : codeL Try.prog (Ok Try.prog) (nd68 [1, 1, 0, 1, 0, 0]) ⟨tm, g⟩ (roundK (fun tm : Nat → LV => (tm 0, tm 1)) (fun tm : Nat → LV => (tm 5, tm 6)) R4 (exitL 0 (thenL (kj68_2  K) (en68 K)))) := by
  refine seq_i (a := nd68 [1, 1, 0, 1, 0, 0, 0]) (b := nd68 [1, 1, 0, 1, 0, 0, 1]) (k' := kj68_5 R4 K) (by kernel_rfl) (fun st h => J68_5_ok R4 K st.tm st.g h) ?_
  try unfold L68_4 at h
  unfold kj68_5
  generalize @J68_5 = Q68_5 at h ⊢
  unfold kj68_2
  generalize @J68_2 = Q68_2 at h ⊢
  refine code2_sound ok_mono _ _ _ ?_
  refine kmp ?_ h
  generalize Ok Try.prog = C
  try unfold en68
  as_aux_lemma => kernel_rfl

noncomputable def J68_3 (x0 x1 x5 x6 : LV) (g : LHeap)  (K : LV → LHeap → Prop) : Prop :=
  loopP (fun s g N => L68_4 x0 x1 s.1 s.2 g N  K) (x5, x6) g
abbrev kj68_3  (K : LV → LHeap → Prop) : LSt → Prop := fun st => J68_3 (st.tm 0) (st.tm 1) (st.tm 5) (st.tm 6) st.g  K
theorem J68_3_ok  (K : LV → LHeap → Prop) (tm : Nat → LV) (g : LHeap) (h : J68_3 (tm 0) (tm 1) (tm 5) (tm 6) g  K) : codeL Try.prog (Ok Try.prog) (nd68 [1, 1, 0, 1]) ⟨tm, g⟩ (thenL (kj68_2  K) (en68 K)) := by
  refine block_i (b := nd68 [1, 1, 0, 1, 0]) (i := 0) (by kernel_rfl) ?_
  exact loop_glue (b := nd68 [1, 1, 0, 1, 0, 0]) (by kernel_rfl) (fun tm : Nat → LV => (tm 0, tm 1)) (fun tm : Nat → LV => (tm 5, tm 6)) (fun a s g N => L68_4 a.1 a.2 s.1 s.2 g N  K) (fun tm g R h => L68_4_ok R  K tm g h) tm g h

noncomputable def J68_1 (x0 x1 x5 : LV) (g : LHeap)  (K : LV → LHeap → Prop) : Prop :=
  J68_3 x0 x1 x5 (.int .i64 (0)) g  K
abbrev kj68_1  (K : LV → LHeap → Prop) : LSt → Prop := fun st => J68_1 (st.tm 0) (st.tm 1) (st.tm 5) st.g  K
theorem J68_1_ok  (K : LV → LHeap → Prop) (tm : Nat → LV) (g : LHeap) (h : J68_1 (tm 0) (tm 1) (tm 5) g  K) : codeL Try.prog (Ok Try.prog) (nd68 [1, 1]) ⟨tm, g⟩ (en68 K) := by
  refine seq_i (a := nd68 [1, 1, 0]) (b := nd68 [1, 1, 1]) (k' := kj68_2  K) (by kernel_rfl) (fun st h => J68_2_ok  K st.tm st.g h) ?_
  refine seq_i (a := nd68 [1, 1, 0, 0]) (b := nd68 [1, 1, 0, 1]) (k' := kj68_3  K) (by kernel_rfl) (fun st h => J68_3_ok  K st.tm st.g h) ?_
  try unfold J68_1 at h
  unfold kj68_3
  generalize @J68_3 = Q68_3 at h ⊢
  unfold kj68_2
  generalize @J68_2 = Q68_2 at h ⊢
  refine code2_sound ok_mono _ _ _ ?_
  refine kmp ?_ h
  generalize Ok Try.prog = C
  try unfold en68
  as_aux_lemma => kernel_rfl

noncomputable def J68_0 (x0 x1 : LV) (g : LHeap)  (K : LV → LHeap → Prop) : Prop :=
  J68_1 x0 x1 .nils g  K
abbrev kj68_0  (K : LV → LHeap → Prop) : LSt → Prop := fun st => J68_0 (st.tm 0) (st.tm 1) st.g  K
theorem J68_0_ok  (K : LV → LHeap → Prop) (tm : Nat → LV) (g : LHeap) (h : J68_0 (tm 0) (tm 1) g  K) : codeL Try.prog (Ok Try.prog) (nd68 [1]) ⟨tm, g⟩ (en68 K) := by
  refine seq_i (a := nd68 [1, 0]) (b := nd68 [1, 1]) (k' := kj68_1  K) (by kernel_rfl) (fun st h => J68_1_ok  K st.tm st.g h) ?_
  try unfold J68_0 at h
  unfold kj68_1
  generalize @J68_1 = Q68_1 at h ⊢
  refine code2_sound ok_mono _ _ _ ?_
  refine kmp ?_ h
  generalize Ok Try.prog = C
  try unfold en68
  as_aux_lemma => kernel_rfl

noncomputable def F68 (x0 x1 : LV) (g : LHeap) (K : LV → LHeap → Prop) : Prop :=
  J68_0 x0 x1 g  K
theorem ok68 {x0 x1 : LV} {g : LHeap} {K : LV → LHeap → Prop} (h : g.Wf → (∀ v ∈ ([x0, x1] : List LV), ∀ b ∈ v.objs, b < g.next) → F68 x0 x1 g K) : Ok Try.prog 68 [x0, x1] g K := by
  refine ok_fw Try.mixed Try.func68 (by kernel_rfl) (by kernel_rfl) (c := nd68 []) (by kernel_rfl) fun wf lt => ?_
  rw [← en68_eq]
  replace h := h wf lt
  generalize hs : startL _ = tm
  replace h : F68 (tm 0) (tm 1) g K := by rw [← hs]; exact h
  refine seq_i (a := nd68 [0]) (b := nd68 [1]) (k' := kj68_0  K) (by kernel_rfl) (fun st h => J68_0_ok  K st.tm st.g h) ?_
  try unfold F68 at h
  unfold kj68_0
  generalize @J68_0 = Q68_0 at h ⊢
  refine code2_sound ok_mono _ _ _ ?_
  refine kmp ?_ h
  generalize Ok Try.prog = C
  try unfold en68
  as_aux_lemma => kernel_rfl

end Go.Proofs.Ytgncgokjbakdmaa
