/-
  Functions of the program, as texts of named values.
-/
import Derived.Test.YtoajcekgoalhjaaBf0
set_option linter.all false
namespace Go.Proofs.Ytoajcekgoalhjaa
open Go.ChangeShapes Go.WideShapes Go.ChangeAt Go.RowKit Go.Lm
set_option maxRecDepth 1000000
set_option linter.unusedVariables false
/-! (*parapet/parapetref06.Frames).Alloc (72 slots) -/
noncomputable def en67 (K : LV → LHeap → Prop) : LEx → LSt → Prop := fun e st => match e with
  | .exit _ => False
  | _ => K (.tuple [(st.tm 4), (st.tm 5)]) st.g
theorem en67_eq (K : LV → LHeap → Prop) : en67 K = endL Try.prog Try.f67 K := by
  funext e st
  cases e <;> kernel_rfl
noncomputable def nd67 (p : List Nat) : Code := subC p (bodyC Try.prog 67)
noncomputable def J67_2 (x0 x1 : LV) (g : LHeap)  (K : LV → LHeap → Prop) : Prop :=
  vK (nilCheckL x0) fun t32 =>
  vK (fieldAddrL 2 t32) fun t33 =>
  vK (loadV none t33 g) fun t34 =>
  vK (ixAddrL none 1 t34 x1) fun t36 =>
  vK (loadV none t36 g) fun t37 =>
  oK (builtinL Try.prog .len [50] [t37] g) fun t39 g =>
  vK (binL Try.prog .eql 3 true t39 (.int .i64 (0))) fun t40 =>
  ifB t40 (
  K (.tuple [(.int .i64 (0)), (.int .i64 (2))]) g) (
  oK (builtinL Try.prog .len [50] [t37] g) fun t43 g =>
  vK (binL Try.prog .sub 3 true t43 (.int .i64 (1))) fun t44 =>
  vK (ixAddrL none 1 t37 t44) fun t45 =>
  vK (loadV none t45 g) fun t46 =>
  vK (nilCheckL x0) fun t48 =>
  vK (fieldAddrL 2 t48) fun t49 =>
  vK (loadV none t49 g) fun t50 =>
  vK (lenL Try.prog 50 t37 g) fun t55 =>
  vK (binL Try.prog .sub 3 true t55 (.int .i64 (1))) fun t56 =>
  vK (cutT Try.prog 50 t37 none (some t56) none (limL t37 g)) fun t57 =>
  ((oK (buildSliceL Try.prog 50 0 [] g) fun t52 g =>
  ((loadV none t49 g) = some t50 ∧ 
  ((oK (builtinL Try.prog .append [50, 50] [t52, t57] g) fun t58 g =>
  ((loadV none t49 g) = some t50 ∧ 
  vK (ixAddrL none 1 t50 x1) fun t59 =>
  ((gK (storeV 1 t59 t58 g) fun g =>
  
  vK (nilCheckL x0) fun t61 =>
  vK (fieldAddrL 1 t61) fun t62 =>
  vK (loadV none t62 g) fun t63 =>
  vK (nilCheckL x0) fun t66 =>
  vK (fieldAddrL 0 t66) fun t67 =>
  vK (loadV none t67 g) fun t68 =>
  vK (binL Try.prog .sub 3 false t46 t68) fun t69 =>
  vK (ixAddrL none 1 t63 t69) fun t70 =>
  ((gK (storeV 1 t70 (.int .i64 (1)) g) fun g =>
  
  K (.tuple [t46, (.int .i64 (0))]) g) ∧ True)) ∧ True))) ∧ True))) ∧ True))
abbrev kj67_2  (K : LV → LHeap → Prop) : LSt → Prop := fun st => J67_2 (st.tm 0) (st.tm 1) st.g  K
theorem J67_2_ok  (K : LV → LHeap → Prop) (tm : Nat → LV) (g : LHeap) (h : J67_2 (tm 0) (tm 1) g  K) : codeL Try.prog (Ok Try.prog) (nd67 [1, 1, 1]) ⟨tm, g⟩ (en67 K) := by
  try unfold J67_2 at h
  refine code3_sound ok_mono (pl := [(9, (.lt 0 false (.lt 1 false (.lt 2 false (.lt 3 true (.lt 4 false (.lt 6 false (.lt 7 false (.lt 8 false (.lt 9 false (.lt 10 false (.hv 5 (.hv 11 (.lt 12 false (.hv 13 .nil .nil)) .nil) .nil))))))))))))]) _ _ _ (by kernel_rfl) ?_
  refine kmp ?_ h
  generalize Ok Try.prog = C
  try unfold en67
  as_aux_lemma => kernel_rfl

noncomputable def J67_1 (x0 x1 : LV) (g : LHeap)  (K : LV → LHeap → Prop) : Prop :=
  vK (nilCheckL x0) fun t20 =>
  vK (fieldAddrL 2 t20) fun t21 =>
  vK (loadV none t21 g) fun t22 =>
  vK (ixAddrL none 1 t22 x1) fun t24 =>
  vK (loadV none t24 g) fun t25 =>
  oK (builtinL Try.prog .len [50] [t25] g) fun t26 g =>
  vK (binL Try.prog .eql 3 true t26 (.int .i64 (0))) fun t27 =>
  ifB t27 (
  Ok Try.prog 86 [x0, x1] g fun t30 g =>
  J67_2 x0 x1 g  K) (
  J67_2 x0 x1 g  K)
abbrev kj67_1  (K : LV → LHeap → Prop) : LSt → Prop := fun st => J67_1 (st.tm 0) (st.tm 1) st.g  K
theorem J67_1_ok  (K : LV → LHeap → Prop) (tm : Nat → LV) (g : LHeap) (h : J67_1 (tm 0) (tm 1) g  K) : codeL Try.prog (Ok Try.prog) (nd67 [1, 1]) ⟨tm, g⟩ (en67 K) := by
  refine seq_i (a := nd67 [1, 1, 0]) (b := nd67 [1, 1, 1]) (k' := kj67_2  K) (by kernel_rfl) (fun st h => J67_2_ok  K st.tm st.g h) ?_
  try unfold J67_1 at h
  unfold kj67_2
  generalize @J67_2 = Q67_2 at h ⊢
  refine code2_sound ok_mono _ _ _ ?_
  refine kmp ?_ h
  generalize Ok Try.prog = C
  try unfold en67
  as_aux_lemma => kernel_rfl

noncomputable def J67_0 (x0 x1 : LV) (g : LHeap)  (K : LV → LHeap → Prop) : Prop :=
  vK (binL Try.prog .lss 3 true x1 (.int .i64 (0))) fun t9 =>
  gd t9 false g (fun K => K x1 g) fun t11 g =>
  gd t9 false g (fun K => K x0 g) fun t12 g =>
  gd t9 false g (fun K => vK (nilCheckL t12) fun v => K v g) fun t13 g =>
  gd t9 false g (fun K => vK (fieldAddrL 2 t13) fun v => K v g) fun t14 g =>
  gd t9 false g (fun K => vK (loadV none t14 g) fun v => K v g) fun t15 g =>
  gd t9 false g (fun K => oK (builtinL Try.prog .len [103] [t15] g) K) fun t16 g =>
  gd t9 false g (fun K => vK (binL Try.prog .geq 3 false t11 t16) fun v => K v g) fun t17 g =>
  vK (pickL t9 (.bool true) t17) fun t18 =>
  ifB t18 (
  K (.tuple [(.int .i64 (0)), (.int .i64 (1))]) g) (
  J67_1 x0 x1 g  K)
abbrev kj67_0  (K : LV → LHeap → Prop) : LSt → Prop := fun st => J67_0 (st.tm 0) (st.tm 1) st.g  K
theorem J67_0_ok  (K : LV → LHeap → Prop) (tm : Nat → LV) (g : LHeap) (h : J67_0 (tm 0) (tm 1) g  K) : codeL Try.prog (Ok Try.prog) (nd67 [1]) ⟨tm, g⟩ (en67 K) := by
  refine seq_i (a := nd67 [1, 0]) (b := nd67 [1, 1]) (k' := kj67_1  K) (by kernel_rfl) (fun st h => J67_1_ok  K st.tm st.g h) ?_
  try unfold J67_0 at h
  unfold kj67_1
  generalize @J67_1 = Q67_1 at h ⊢
  refine code2_sound ok_mono _ _ _ ?_
  refine kmp ?_ h
  generalize Ok Try.prog = C
  try unfold en67
  as_aux_lemma => kernel_rfl

noncomputable def F67 (x0 x1 : LV) (g : LHeap) (K : LV → LHeap → Prop) : Prop :=
  J67_0 x0 x1 g  K
theorem ok67 {x0 x1 : LV} {g : LHeap} {K : LV → LHeap → Prop} (h : g.Wf → (∀ v ∈ ([x0, x1] : List LV), ∀ b ∈ v.objs, b < g.next) → F67 x0 x1 g K) : Ok Try.prog 67 [x0, x1] g K := by
  refine ok_fw Try.mixed Try.func67 (by kernel_rfl) (by kernel_rfl) (c := nd67 []) (by kernel_rfl) fun wf lt => ?_
  rw [← en67_eq]
  replace h := h wf lt
  generalize hs : startL _ = tm
  replace h : F67 (tm 0) (tm 1) g K := by rw [← hs]; exact h
  refine seq_i (a := nd67 [0]) (b := nd67 [1]) (k' := kj67_0  K) (by kernel_rfl) (fun st h => J67_0_ok  K st.tm st.g h) ?_
  try unfold F67 at h
  unfold kj67_0
  generalize @J67_0 = Q67_0 at h ⊢
  refine code2_sound ok_mono _ _ _ ?_
  refine kmp ?_ h
  generalize Ok Try.prog = C
  try unfold en67
  as_aux_lemma => kernel_rfl

/-! (*parapet/parapetref06.Frames).Decr (85 slots) -/
noncomputable def en68 (K : LV → LHeap → Prop) : LEx → LSt → Prop := fun e st => match e with
  | .exit _ => False
  | _ => K (.tuple [(st.tm 6), (st.tm 7)]) st.g
theorem en68_eq (K : LV → LHeap → Prop) : en68 K = endL Try.prog Try.f68 K := by
  funext e st
  cases e <;> kernel_rfl
noncomputable def nd68 (p : List Nat) : Code := subC p (bodyC Try.prog 68)
noncomputable def J68_6 (x0 x1 x8 : LV) (g : LHeap)  (K : LV → LHeap → Prop) : Prop :=
  vK (nilCheckL x0) fun t79 =>
  vK (fieldAddrL 2 t79) fun t80 =>
  vK (loadV none t80 g) fun t81 =>
  vK (ixAddrL none 1 t81 x1) fun t84 =>
  gK (storeV 1 t84 x8 g) fun g =>
  K (.tuple [(.bool true), (.int .i64 (0))]) g
abbrev kj68_6  (K : LV → LHeap → Prop) : LSt → Prop := fun st => J68_6 (st.tm 0) (st.tm 1) (st.tm 8) st.g  K
theorem J68_6_ok  (K : LV → LHeap → Prop) (tm : Nat → LV) (g : LHeap) (h : J68_6 (tm 0) (tm 1) (tm 8) g  K) : codeL Try.prog (Ok Try.prog) (nd68 [1, 1, 1, 1, 1, 1, 1]) ⟨tm, g⟩ (en68 K) := by
  try unfold J68_6 at h
  refine code2_sound ok_mono _ _ _ ?_
  refine kmp ?_ h
  generalize Ok Try.prog = C
  try unfold en68
  as_aux_lemma => kernel_rfl

noncomputable def J68_8 (x0 x1 x8 : LV) (g : LHeap)  (K : LV → LHeap → Prop) : Prop :=
  vK (cutT Try.prog 50 x8 (some (.int .i64 (8))) none none (limL x8 g)) fun t77 =>
  J68_6 x0 x1 t77 g  K
abbrev kj68_8  (K : LV → LHeap → Prop) : LSt → Prop := fun st => J68_8 (st.tm 0) (st.tm 1) (st.tm 8) st.g  K
theorem J68_8_ok  (K : LV → LHeap → Prop) (tm : Nat → LV) (g : LHeap) (h : J68_8 (tm 0) (tm 1) (tm 8) g  K) : codeL Try.prog (Ok Try.prog) (nd68 [1, 1, 1, 1, 1, 1, 0, 1, 0, 1]) ⟨tm, g⟩ (thenL (kj68_6  K) (en68 K)) := by
  try unfold J68_8 at h
  unfold kj68_6
  generalize @J68_6 = Q68_6 at h ⊢
  refine code2_sound ok_mono _ _ _ ?_
  refine kmp ?_ h
  generalize Ok Try.prog = C
  try unfold en68
  as_aux_lemma => kernel_rfl

noncomputable def L68_10 (x0 x1 x8 x60 x61 : LV) (x62 : LV) (g : LHeap) (N10 : LV → LHeap → Prop) (K : LV → LHeap → Prop) : Prop :=
  vK (binL Try.prog .lss 3 false x62 x61) fun t63 =>
  ifB t63 (
  vK (ixAddrL none 1 x60 x62) fun t64 =>
  vK (loadV none t64 g) fun t65 =>
  vK (nilCheckL x0) fun t68 =>
  vK (fieldAddrL 3 t68) fun t69 =>
  vK (loadV none t69 g) fun t70 =>
  Ok Try.prog 87 [t70, t65] g fun t72 g =>
  vK (nilCheckL x0) fun t73 =>
  vK (fieldAddrL 3 t73) fun t74 =>
  gK (storeV 1 t74 t72 g) fun g =>
  vK (binL Try.prog .add 3 true x62 (.int .i64 (1))) fun t75 =>
  N10 t75 g) (
  J68_8 x0 x1 x8 g  K)
theorem L68_10_ok (R10 : LV × LV × LV × LV × LV → LV → LHeap → Prop) (K : LV → LHeap → Prop) (tm : Nat → LV) (g : LHeap) (h : L68_10 (tm 0) (tm 1) (tm 8) (tm 60) (tm 61) (tm 62) g (fun s g => R10 ((tm 0), (tm 1), (tm 8), (tm 60), (tm 61)) s g) K) : codeL Try.prog (Ok Try.prog) (nd68 [1, 1, 1, 1, 1, 1, 0, 1, 0, 0, 1, 0, 0]) ⟨tm, g⟩ (roundK (fun tm : Nat → LV => (tm 0, tm 1, tm 8, tm 60, tm 61)) (fun tm : Nat → LV => tm 62) R10 (exitL 0 (thenL (kj68_8  K) (thenL (kj68_6  K) (en68 K))))) := by
  try unfold L68_10 at h
  unfold kj68_8
  generalize @J68_8 = Q68_8 at h ⊢
  unfold kj68_6
  generalize @J68_6 = Q68_6 at h ⊢
  refine code2_sound ok_mono _ _ _ ?_
  refine kmp ?_ h
  generalize Ok Try.prog = C
  try unfold en68
  as_aux_lemma => kernel_rfl

noncomputable def J68_9 (x0 x1 x8 x60 x61 x62 : LV) (g : LHeap)  (K : LV → LHeap → Prop) : Prop :=
  loopP (fun s g N => L68_10 x0 x1 x8 x60 x61 s g N  K) x62 g
abbrev kj68_9  (K : LV → LHeap → Prop) : LSt → Prop := fun st => J68_9 (st.tm 0) (st.tm 1) (st.tm 8) (st.tm 60) (st.tm 61) (st.tm 62) st.g  K
theorem J68_9_ok  (K : LV → LHeap → Prop) (tm : Nat → LV) (g : LHeap) (h : J68_9 (tm 0) (tm 1) (tm 8) (tm 60) (tm 61) (tm 62) g  K) : codeL Try.prog (Ok Try.prog) (nd68 [1, 1, 1, 1, 1, 1, 0, 1, 0, 0, 1]) ⟨tm, g⟩ (thenL (kj68_8  K) (thenL (kj68_6  K) (en68 K))) := by
  refine block_i (b := nd68 [1, 1, 1, 1, 1, 1, 0, 1, 0, 0, 1, 0]) (i := 0) (by kernel_rfl) ?_
  exact loop_glue (b := nd68 [1, 1, 1, 1, 1, 1, 0, 1, 0, 0, 1, 0, 0]) (by kernel_rfl) (fun tm : Nat → LV => (tm 0, tm 1, tm 8, tm 60, tm 61)) (fun tm : Nat → LV => tm 62) (fun a s g N => L68_10 a.1 a.2.1 a.2.2.1 a.2.2.2.1 a.2.2.2.2 s g N  K) (fun tm g R h => L68_10_ok R  K tm g h) tm g h

noncomputable def J68_7 (x0 x1 x8 x58 : LV) (g : LHeap)  (K : LV → LHeap → Prop) : Prop :=
  ifB x58 (
  vK (cutT Try.prog 50 x8 none (some (.int .i64 (8))) none (limL x8 g)) fun t60 =>
  oK (builtinL Try.prog .len [50] [t60] g) fun t61 g =>
  J68_9 x0 x1 x8 t60 t61 (.int .i64 (0)) g  K) (
  J68_6 x0 x1 x8 g  K)
abbrev kj68_7  (K : LV → LHeap → Prop) : LSt → Prop := fun st => J68_7 (st.tm 0) (st.tm 1) (st.tm 8) (st.tm 58) st.g  K
theorem J68_7_ok  (K : LV → LHeap → Prop) (tm : Nat → LV) (g : LHeap) (h : J68_7 (tm 0) (tm 1) (tm 8) (tm 58) g  K) : codeL Try.prog (Ok Try.prog) (nd68 [1, 1, 1, 1, 1, 1, 0, 1]) ⟨tm, g⟩ (thenL (kj68_6  K) (en68 K)) := by
  refine cond_i (a := nd68 [1, 1, 1, 1, 1, 1, 0, 1, 0]) (b := nd68 [1, 1, 1, 1, 1, 1, 0, 1, 1]) (by kernel_rfl) h (fun h => ?_) (fun h => ?_)
  refine seq_i (a := nd68 [1, 1, 1, 1, 1, 1, 0, 1, 0, 0]) (b := nd68 [1, 1, 1, 1, 1, 1, 0, 1, 0, 1]) (k' := kj68_8  K) (by kernel_rfl) (fun st h => J68_8_ok  K st.tm st.g h) ?_
  refine seq_i (a := nd68 [1, 1, 1, 1, 1, 1, 0, 1, 0, 0, 0]) (b := nd68 [1, 1, 1, 1, 1, 1, 0, 1, 0, 0, 1]) (k' := kj68_9  K) (by kernel_rfl) (fun st h => J68_9_ok  K st.tm st.g h) ?_
  try unfold J68_7 at h
  unfold kj68_9
  generalize @J68_9 = Q68_9 at h ⊢
  unfold kj68_8
  generalize @J68_8 = Q68_8 at h ⊢
  unfold kj68_6
  generalize @J68_6 = Q68_6 at h ⊢
  refine code2_sound ok_mono _ _ _ ?_
  refine kmp ?_ h
  generalize Ok Try.prog = C
  try unfold en68
  as_aux_lemma => kernel_rfl
  try unfold J68_7 at h
  unfold kj68_6
  generalize @J68_6 = Q68_6 at h ⊢
  refine code2_sound ok_mono _ _ _ ?_
  refine kmp ?_ h
  generalize Ok Try.prog = C
  try unfold en68
  as_aux_lemma => kernel_rfl

noncomputable def J68_5 (x0 x1 x8 : LV) (g : LHeap)  (K : LV → LHeap → Prop) : Prop :=
  oK (builtinL Try.prog .len [50] [x8] g) fun t57 g =>
  vK (binL Try.prog .gtr 3 true t57 (.int .i64 (16))) fun t58 =>
  J68_7 x0 x1 x8 t58 g  K
abbrev kj68_5  (K : LV → LHeap → Prop) : LSt → Prop := fun st => J68_5 (st.tm 0) (st.tm 1) (st.tm 8) st.g  K
theorem J68_5_ok  (K : LV → LHeap → Prop) (tm : Nat → LV) (g : LHeap) (h : J68_5 (tm 0) (tm 1) (tm 8) g  K) : codeL Try.prog (Ok Try.prog) (nd68 [1, 1, 1, 1, 1, 1]) ⟨tm, g⟩ (en68 K) := by
  refine seq_i (a := nd68 [1, 1, 1, 1, 1, 1, 0]) (b := nd68 [1, 1, 1, 1, 1, 1, 1]) (k' := kj68_6  K) (by kernel_rfl) (fun st h => J68_6_ok  K st.tm st.g h) ?_
  refine seq_i (a := nd68 [1, 1, 1, 1, 1, 1, 0, 0]) (b := nd68 [1, 1, 1, 1, 1, 1, 0, 1]) (k' := kj68_7  K) (by kernel_rfl) (fun st h => J68_7_ok  K st.tm st.g h) ?_
  try unfold J68_5 at h
  unfold kj68_7
  generalize @J68_7 = Q68_7 at h ⊢
  unfold kj68_6
  generalize @J68_6 = Q68_6 at h ⊢
  refine code2_sound ok_mono _ _ _ ?_
  refine kmp ?_ h
  generalize Ok Try.prog = C
  try unfold en68
  as_aux_lemma => kernel_rfl

noncomputable def J68_4 (x0 x1 x2 : LV) (g : LHeap)  (K : LV → LHeap → Prop) : Prop :=
  oK (buildSliceL Try.prog 50 0 [] g) fun t44 g =>
  vK (nilCheckL x0) fun t46 =>
  vK (fieldAddrL 2 t46) fun t47 =>
  vK (loadV none t47 g) fun t48 =>
  vK (ixAddrL none 1 t48 x1) fun t50 =>
  vK (loadV none t50 g) fun t51 =>
  oK (builtinL Try.prog .append [50, 50] [t44, t51] g) fun t52 g =>
  oK (buildSliceL Try.prog 50 1 [(0, x2)] g) fun t54 g =>
  oK (builtinL Try.prog .append [50, 50] [t52, t54] g) fun t55 g =>
  J68_5 x0 x1 t55 g  K
abbrev kj68_4  (K : LV → LHeap → Prop) : LSt → Prop := fun st => J68_4 (st.tm 0) (st.tm 1) (st.tm 2) st.g  K
theorem J68_4_ok  (K : LV → LHeap → Prop) (tm : Nat → LV) (g : LHeap) (h : J68_4 (tm 0) (tm 1) (tm 2) g  K) : codeL Try.prog (Ok Try.prog) (nd68 [1, 1, 1, 1, 1]) ⟨tm, g⟩ (en68 K) := by
  refine seq_i (a := nd68 [1, 1, 1, 1, 1, 0]) (b := nd68 [1, 1, 1, 1, 1, 1]) (k' := kj68_5  K) (by kernel_rfl) (fun st h => J68_5_ok  K st.tm st.g h) ?_
  try unfold J68_4 at h
  unfold kj68_5
  generalize @J68_5 = Q68_5 at h ⊢
  refine code2_sound ok_mono _ _ _ ?_
  refine kmp ?_ h
  generalize Ok Try.prog = C
  try unfold en68
  as_aux_lemma => kernel_rfl

noncomputable def J68_3 (x0 x1 x2 : LV) (g : LHeap)  (K : LV → LHeap → Prop) : Prop :=
  Ok Try.prog 70 [x0, x2] g fun t42 g =>
  vK (binL Try.prog .gtr 3 true t42 (.int .i64 (0))) fun t43 =>
  ifB t43 (
  K (.tuple [(.bool false), (.int .i64 (0))]) g) (
  J68_4 x0 x1 x2 g  K)
abbrev kj68_3  (K : LV → LHeap → Prop) : LSt → Prop := fun st => J68_3 (st.tm 0) (st.tm 1) (st.tm 2) st.g  K
theorem J68_3_ok  (K : LV → LHeap → Prop) (tm : Nat → LV) (g : LHeap) (h : J68_3 (tm 0) (tm 1) (tm 2) g  K) : codeL Try.prog (Ok Try.prog) (nd68 [1, 1, 1, 1]) ⟨tm, g⟩ (en68 K) := by
  refine seq_i (a := nd68 [1, 1, 1, 1, 0]) (b := nd68 [1, 1, 1, 1, 1]) (k' := kj68_4  K) (by kernel_rfl) (fun st h => J68_4_ok  K st.tm st.g h) ?_
  try unfold J68_3 at h
  unfold kj68_4
  generalize @J68_4 = Q68_4 at h ⊢
  refine code2_sound ok_mono _ _ _ ?_
  refine kmp ?_ h
  generalize Ok Try.prog = C
  try unfold en68
  as_aux_lemma => kernel_rfl

noncomputable def J68_2 (x0 x1 x2 : LV) (g : LHeap)  (K : LV → LHeap → Prop) : Prop :=
  vK (nilCheckL x0) fun t27 =>
  vK (fieldAddrL 1 t27) fun t28 =>
  vK (loadV none t28 g) fun t29 =>
  vK (nilCheckL x0) fun t32 =>
  vK (fieldAddrL 0 t32) fun t33 =>
  vK (loadV none t33 g) fun t34 =>
  vK (binL Try.prog .sub 3 false x2 t34) fun t35 =>
  vK (ixAddrL none 1 t29 t35) fun t36 =>
  vK (loadV none t36 g) fun t37 =>
  vK (binL Try.prog .sub 3 true t37 (.int .i64 (1))) fun t38 =>
  vK (ixAddrL none 1 t29 t35) fun t39 =>
  ((gK (storeV 1 t39 t38 g) fun g =>
  
  J68_3 x0 x1 x2 g  K) ∧ True)
abbrev kj68_2  (K : LV → LHeap → Prop) : LSt → Prop := fun st => J68_2 (st.tm 0) (st.tm 1) (st.tm 2) st.g  K
theorem J68_2_ok  (K : LV → LHeap → Prop) (tm : Nat → LV) (g : LHeap) (h : J68_2 (tm 0) (tm 1) (tm 2) g  K) : codeL Try.prog (Ok Try.prog) (nd68 [1, 1, 1]) ⟨tm, g⟩ (en68 K) := by
  refine seq_i (a := nd68 [1, 1, 1, 0]) (b := nd68 [1, 1, 1, 1]) (k' := kj68_3  K) (by kernel_rfl) (fun st h => J68_3_ok  K st.tm st.g h) ?_
  try unfold J68_2 at h
  unfold kj68_3
  generalize @J68_3 = Q68_3 at h ⊢
  refine code3_sound ok_mono (pl := [(5, (.lt 0 false (.lt 1 false (.lt 2 false (.lt 3 false (.lt 4 false (.lt 5 false (.lt 6 false (.lt 7 false (.lt 8 false (.lt 9 false (.lt 10 false (.lt 11 false (.lt 12 false (.lt 13 false (.hv 14 .nil .nil))))))))))))))))]) _ _ _ (by kernel_rfl) ?_
  refine kmp ?_ h
  generalize Ok Try.prog = C
  try unfold en68
  as_aux_lemma => kernel_rfl

noncomputable def J68_1 (x0 x1 x2 : LV) (g : LHeap)  (K : LV → LHeap → Prop) : Prop :=
  Ok Try.prog 70 [x0, x2] g fun t24 g =>
  vK (binL Try.prog .eql 3 true t24 (.int .i64 (0))) fun t25 =>
  ifB t25 (
  K (.tuple [(.bool false), (.int .i64 (60))]) g) (
  J68_2 x0 x1 x2 g  K)
abbrev kj68_1  (K : LV → LHeap → Prop) : LSt → Prop := fun st => J68_1 (st.tm 0) (st.tm 1) (st.tm 2) st.g  K
theorem J68_1_ok  (K : LV → LHeap → Prop) (tm : Nat → LV) (g : LHeap) (h : J68_1 (tm 0) (tm 1) (tm 2) g  K) : codeL Try.prog (Ok Try.prog) (nd68 [1, 1]) ⟨tm, g⟩ (en68 K) := by
  refine seq_i (a := nd68 [1, 1, 0]) (b := nd68 [1, 1, 1]) (k' := kj68_2  K) (by kernel_rfl) (fun st h => J68_2_ok  K st.tm st.g h) ?_
  try unfold J68_1 at h
  unfold kj68_2
  generalize @J68_2 = Q68_2 at h ⊢
  refine code2_sound ok_mono _ _ _ ?_
  refine kmp ?_ h
  generalize Ok Try.prog = C
  try unfold en68
  as_aux_lemma => kernel_rfl

noncomputable def J68_0 (x0 x1 x2 : LV) (g : LHeap)  (K : LV → LHeap → Prop) : Prop :=
  vK (binL Try.prog .lss 3 true x1 (.int .i64 (0))) fun t12 =>
  gd t12 false g (fun K => K x1 g) fun t14 g =>
  gd t12 false g (fun K => K x0 g) fun t15 g =>
  gd t12 false g (fun K => vK (nilCheckL t15) fun v => K v g) fun t16 g =>
  gd t12 false g (fun K => vK (fieldAddrL 2 t16) fun v => K v g) fun t17 g =>
  gd t12 false g (fun K => vK (loadV none t17 g) fun v => K v g) fun t18 g =>
  gd t12 false g (fun K => oK (builtinL Try.prog .len [103] [t18] g) K) fun t19 g =>
  gd t12 false g (fun K => vK (binL Try.prog .geq 3 false t14 t19) fun v => K v g) fun t20 g =>
  vK (pickL t12 (.bool true) t20) fun t21 =>
  ifB t21 (
  K (.tuple [(.bool false), (.int .i64 (1))]) g) (
  J68_1 x0 x1 x2 g  K)
abbrev kj68_0  (K : LV → LHeap → Prop) : LSt → Prop := fun st => J68_0 (st.tm 0) (st.tm 1) (st.tm 2) st.g  K
theorem J68_0_ok  (K : LV → LHeap → Prop) (tm : Nat → LV) (g : LHeap) (h : J68_0 (tm 0) (tm 1) (tm 2) g  K) : codeL Try.prog (Ok Try.prog) (nd68 [1]) ⟨tm, g⟩ (en68 K) := by
  refine seq_i (a := nd68 [1, 0]) (b := nd68 [1, 1]) (k' := kj68_1  K) (by kernel_rfl) (fun st h => J68_1_ok  K st.tm st.g h) ?_
  try unfold J68_0 at h
  unfold kj68_1
  generalize @J68_1 = Q68_1 at h ⊢
  refine code2_sound ok_mono _ _ _ ?_
  refine kmp ?_ h
  generalize Ok Try.prog = C
  try unfold en68
  as_aux_lemma => kernel_rfl

noncomputable def F68 (x0 x1 x2 : LV) (g : LHeap) (K : LV → LHeap → Prop) : Prop :=
  J68_0 x0 x1 x2 g  K
theorem ok68 {x0 x1 x2 : LV} {g : LHeap} {K : LV → LHeap → Prop} (h : g.Wf → (∀ v ∈ ([x0, x1, x2] : List LV), ∀ b ∈ v.objs, b < g.next) → F68 x0 x1 x2 g K) : Ok Try.prog 68 [x0, x1, x2] g K := by
  refine ok_fw Try.mixed Try.func68 (by kernel_rfl) (by kernel_rfl) (c := nd68 []) (by kernel_rfl) fun wf lt => ?_
  rw [← en68_eq]
  replace h := h wf lt
  generalize hs : startL _ = tm
  replace h : F68 (tm 0) (tm 1) (tm 2) g K := by rw [← hs]; exact h
  refine seq_i (a := nd68 [0]) (b := nd68 [1]) (k' := kj68_0  K) (by kernel_rfl) (fun st h => J68_0_ok  K st.tm st.g h) ?_
  try unfold F68 at h
  unfold kj68_0
  generalize @J68_0 = Q68_0 at h ⊢
  refine code2_sound ok_mono _ _ _ ?_
  refine kmp ?_ h
  generalize Ok Try.prog = C
  try unfold en68
  as_aux_lemma => kernel_rfl

/-! (*parapet/parapetref06.Frames).Incr (27 slots) -/
noncomputable def en69 (K : LV → LHeap → Prop) : LEx → LSt → Prop := fun e st => match e with
  | .exit _ => False
  | _ => K (st.tm 4) st.g
theorem en69_eq (K : LV → LHeap → Prop) : en69 K = endL Try.prog Try.f69 K := by
  funext e st
  cases e <;> kernel_rfl
noncomputable def nd69 (p : List Nat) : Code := subC p (bodyC Try.prog 69)
noncomputable def F69 (x0 x1 : LV) (g : LHeap) (K : LV → LHeap → Prop) : Prop :=
  Ok Try.prog 70 [x0, x1] g fun t7 g =>
  vK (binL Try.prog .eql 3 true t7 (.int .i64 (0))) fun t8 =>
  ifB t8 (
  K (.int .i64 (60)) g) (
  Ok Try.prog 70 [x0, x1] g fun t11 g =>
  vK (binL Try.prog .eql 3 true t11 (.int .i64 (1048576))) fun t12 =>
  ifB t12 (
  K (.int .i64 (2)) g) (
  vK (nilCheckL x0) fun t14 =>
  vK (fieldAddrL 1 t14) fun t15 =>
  vK (loadV none t15 g) fun t16 =>
  vK (nilCheckL x0) fun t19 =>
  vK (fieldAddrL 0 t19) fun t20 =>
  vK (loadV none t20 g) fun t21 =>
  vK (binL Try.prog .sub 3 false x1 t21) fun t22 =>
  vK (ixAddrL none 1 t16 t22) fun t23 =>
  vK (loadV none t23 g) fun t24 =>
  vK (binL Try.prog .add 3 true t24 (.int .i64 (1))) fun t25 =>
  vK (ixAddrL none 1 t16 t22) fun t26 =>
  ((gK (storeV 1 t26 t25 g) fun g =>
  
  K (.int .i64 (0)) g) ∧ True)))
theorem ok69 {x0 x1 : LV} {g : LHeap} {K : LV → LHeap → Prop} (h : g.Wf → (∀ v ∈ ([x0, x1] : List LV), ∀ b ∈ v.objs, b < g.next) → F69 x0 x1 g K) : Ok Try.prog 69 [x0, x1] g K := by
  refine ok_fw Try.mixed Try.func69 (by kernel_rfl) (by kernel_rfl) (c := nd69 []) (by kernel_rfl) fun wf lt => ?_
  rw [← en69_eq]
  replace h := h wf lt
  generalize hs : startL _ = tm
  replace h : F69 (tm 0) (tm 1) g K := by rw [← hs]; exact h
  try unfold F69 at h
  refine code3_sound ok_mono (pl := [(5, (.lt 0 false (.lt 1 false (.lt 2 false (.lt 3 false (.lt 4 false (.lt 5 false (.lt 6 false (.lt 7 false (.lt 8 false (.lt 9 false (.lt 10 false (.lt 11 false (.lt 12 false (.lt 13 false (.hv 14 .nil .nil))))))))))))))))]) _ _ _ (by kernel_rfl) ?_
  refine kmp ?_ h
  generalize Ok Try.prog = C
  try unfold en69
  as_aux_lemma => kernel_rfl

/-! (*parapet/parapetref06.Frames).fill (99 slots) -/
noncomputable def en86 (K : LV → LHeap → Prop) : LEx → LSt → Prop := fun e st => match e with
  | .exit _ => False
  | _ => K (.tuple []) st.g
theorem en86_eq (K : LV → LHeap → Prop) : en86 K = endL Try.prog Try.f86 K := by
  funext e st
  cases e <;> kernel_rfl
noncomputable def nd86 (p : List Nat) : Code := subC p (bodyC Try.prog 86)
noncomputable def J86_2 (x0 x1 x5 : LV) (g : LHeap)  (K : LV → LHeap → Prop) : Prop :=
  vK (nilCheckL x0) fun t67 =>
  vK (fieldAddrL 2 t67) fun t68 =>
  vK (loadV none t68 g) fun t69 =>
  vK (ixAddrL none 1 t69 x5) fun t71 =>
  vK (loadV none t71 g) fun t72 =>
  oK (builtinL Try.prog .len [50] [t72] g) fun t74 g =>
  vK (binL Try.prog .add 3 true t74 (.int .i64 (1))) fun t75 =>
  vK (binL Try.prog .quo 3 true t75 (.int .i64 (2))) fun t76 =>
  vK (nilCheckL x0) fun t78 =>
  vK (fieldAddrL 2 t78) fun t79 =>
  vK (loadV none t79 g) fun t80 =>
  vK (cutT Try.prog 50 t72 (some t76) none none (limL t72 g)) fun t85 =>
  ((oK (buildSliceL Try.prog 50 0 [] g) fun t82 g =>
  ((loadV none t79 g) = some t80 ∧ 
  ((oK (builtinL Try.prog .append [50, 50] [t82, t85] g) fun t86 g =>
  ((loadV none t79 g) = some t80 ∧ 
  vK (ixAddrL none 1 t80 x5) fun t87 =>
  ((gK (storeV 1 t87 t86 g) fun g =>
  
  vK (nilCheckL x0) fun t89 =>
  vK (fieldAddrL 2 t89) fun t90 =>
  vK (loadV none t90 g) fun t91 =>
  vK (cutT Try.prog 50 t72 none (some t76) none (limL t72 g)) fun t96 =>
  ((oK (buildSliceL Try.prog 50 0 [] g) fun t93 g =>
  ((loadV none t90 g) = some t91 ∧ 
  ((oK (builtinL Try.prog .append [50, 50] [t93, t96] g) fun t97 g =>
  ((loadV none t90 g) = some t91 ∧ 
  vK (ixAddrL none 1 t91 x1) fun t98 =>
  ((gK (storeV 1 t98 t97 g) fun g =>
  
  K (.tuple []) g) ∧ True))) ∧ True))) ∧ True)) ∧ True))) ∧ True))) ∧ True)
abbrev kj86_2  (K : LV → LHeap → Prop) : LSt → Prop := fun st => J86_2 (st.tm 0) (st.tm 1) (st.tm 5) st.g  K
theorem J86_2_ok  (K : LV → LHeap → Prop) (tm : Nat → LV) (g : LHeap) (h : J86_2 (tm 0) (tm 1) (tm 5) g  K) : codeL Try.prog (Ok Try.prog) (nd86 [1, 1, 1]) ⟨tm, g⟩ (en86 K) := by
  try unfold J86_2 at h
  refine code2_sound ok_mono _ _ _ ?_
  refine kmp ?_ h
  generalize Ok Try.prog = C
  try unfold en86
  as_aux_lemma => kernel_rfl

noncomputable def L86_4 (x0 x1 x46 x47 : LV) (x5 x48 : LV) (g : LHeap) (N4 : LV × LV → LHeap → Prop) (K : LV → LHeap → Prop) : Prop :=
  vK (binL Try.prog .lss 3 false x48 x47) fun t49 =>
  ifB t49 (
  vK (ixAddrL none 1 x46 x48) fun t51 =>
  vK (loadV none t51 g) fun t52 =>
  oK (builtinL Try.prog .len [50] [t52] g) fun t54 g =>
  vK (nilCheckL x0) fun t56 =>
  vK (fieldAddrL 2 t56) fun t57 =>
  vK (loadV none t57 g) fun t58 =>
  vK (ixAddrL none 1 t58 x5) fun t60 =>
  vK (loadV none t60 g) fun t61 =>
  oK (builtinL Try.prog .len [50] [t61] g) fun t62 g =>
  vK (binL Try.prog .gtr 3 false t54 t62) fun t63 =>
  ifB t63 (
  vK (binL Try.prog .add 3 true x48 (.int .i64 (1))) fun t65 =>
  N4 (x48, t65) g) (
  vK (binL Try.prog .add 3 true x48 (.int .i64 (1))) fun t65 =>
  N4 (x5, t65) g)) (
  J86_2 x0 x1 x5 g  K)
theorem L86_4_ok (R4 : LV × LV × LV × LV → LV × LV → LHeap → Prop) (K : LV → LHeap → Prop) (tm : Nat → LV) (g : LHeap) (h : L86_4 (tm 0) (tm 1) (tm 46) (tm 47) (tm 5) (tm 48) g (fun s g => R4 ((tm 0), (tm 1), (tm 46), (tm 47)) s g) K) : codeL Try.prog (Ok Try.prog) (nd86 [1, 1, 0, 1, 0, 0]) ⟨tm, g⟩ (roundK (fun tm : Nat → LV => (tm 0, tm 1, tm 46, tm 47)) (fun tm : Nat → LV => (tm 5, tm 48)) R4 (exitL 0 (thenL (kj86_2  K) (en86 K)))) := by
  try unfold L86_4 at h
  unfold kj86_2
  generalize @J86_2 = Q86_2 at h ⊢
  refine code2_sound ok_mono _ _ _ ?_
  refine kmp ?_ h
  generalize Ok Try.prog = C
  try unfold en86
  as_aux_lemma => kernel_rfl

noncomputable def J86_3 (x0 x1 x5 x46 x47 x48 : LV) (g : LHeap)  (K : LV → LHeap → Prop) : Prop :=
  loopP (fun s g N => L86_4 x0 x1 x46 x47 s.1 s.2 g N  K) (x5, x48) g
abbrev kj86_3  (K : LV → LHeap → Prop) : LSt → Prop := fun st => J86_3 (st.tm 0) (st.tm 1) (st.tm 5) (st.tm 46) (st.tm 47) (st.tm 48) st.g  K
theorem J86_3_ok  (K : LV → LHeap → Prop) (tm : Nat → LV) (g : LHeap) (h : J86_3 (tm 0) (tm 1) (tm 5) (tm 46) (tm 47) (tm 48) g  K) : codeL Try.prog (Ok Try.prog) (nd86 [1, 1, 0, 1]) ⟨tm, g⟩ (thenL (kj86_2  K) (en86 K)) := by
  refine block_i (b := nd86 [1, 1, 0, 1, 0]) (i := 0) (by kernel_rfl) ?_
  exact loop_glue (b := nd86 [1, 1, 0, 1, 0, 0]) (by kernel_rfl) (fun tm : Nat → LV => (tm 0, tm 1, tm 46, tm 47)) (fun tm : Nat → LV => (tm 5, tm 48)) (fun a s g N => L86_4 a.1 a.2.1 a.2.2.1 a.2.2.2 s.1 s.2 g N  K) (fun tm g R h => L86_4_ok R  K tm g h) tm g h

noncomputable def J86_1 (x0 x1 x5 : LV) (g : LHeap)  (K : LV → LHeap → Prop) : Prop :=
  vK (nilCheckL x0) fun t44 =>
  vK (fieldAddrL 2 t44) fun t45 =>
  vK (loadV none t45 g) fun t46 =>
  oK (builtinL Try.prog .len [103] [t46] g) fun t47 g =>
  J86_3 x0 x1 x5 t46 t47 (.int .i64 (0)) g  K
abbrev kj86_1  (K : LV → LHeap → Prop) : LSt → Prop := fun st => J86_1 (st.tm 0) (st.tm 1) (st.tm 5) st.g  K
theorem J86_1_ok  (K : LV → LHeap → Prop) (tm : Nat → LV) (g : LHeap) (h : J86_1 (tm 0) (tm 1) (tm 5) g  K) : codeL Try.prog (Ok Try.prog) (nd86 [1, 1]) ⟨tm, g⟩ (en86 K) := by
  refine seq_i (a := nd86 [1, 1, 0]) (b := nd86 [1, 1, 1]) (k' := kj86_2  K) (by kernel_rfl) (fun st h => J86_2_ok  K st.tm st.g h) ?_
  refine seq_i (a := nd86 [1, 1, 0, 0]) (b := nd86 [1, 1, 0, 1]) (k' := kj86_3  K) (by kernel_rfl) (fun st h => J86_3_ok  K st.tm st.g h) ?_
  try unfold J86_1 at h
  unfold kj86_3
  generalize @J86_3 = Q86_3 at h ⊢
  unfold kj86_2
  generalize @J86_2 = Q86_2 at h ⊢
  refine code2_sound ok_mono _ _ _ ?_
  refine kmp ?_ h
  generalize Ok Try.prog = C
  try unfold en86
  as_aux_lemma => kernel_rfl

noncomputable def J86_0 (x0 x1 : LV) (g : LHeap)  (K : LV → LHeap → Prop) : Prop :=
  J86_1 x0 x1 (.int .i64 (0)) g  K
abbrev kj86_0  (K : LV → LHeap → Prop) : LSt → Prop := fun st => J86_0 (st.tm 0) (st.tm 1) st.g  K
theorem J86_0_ok  (K : LV → LHeap → Prop) (tm : Nat → LV) (g : LHeap) (h : J86_0 (tm 0) (tm 1) g  K) : codeL Try.prog (Ok Try.prog) (nd86 [1]) ⟨tm, g⟩ (en86 K) := by
  refine seq_i (a := nd86 [1, 0]) (b := nd86 [1, 1]) (k' := kj86_1  K) (by kernel_rfl) (fun st h => J86_1_ok  K st.tm st.g h) ?_
  try unfold J86_0 at h
  unfold kj86_1
  generalize @J86_1 = Q86_1 at h ⊢
  refine code2_sound ok_mono _ _ _ ?_
  refine kmp ?_ h
  generalize Ok Try.prog = C
  try unfold en86
  as_aux_lemma => kernel_rfl

noncomputable def F86 (x0 x1 : LV) (g : LHeap) (K : LV → LHeap → Prop) : Prop :=
  vK (nilCheckL x0) fun t11 =>
  vK (fieldAddrL 3 t11) fun t12 =>
  vK (loadV none t12 g) fun t13 =>
  oK (builtinL Try.prog .len [50] [t13] g) fun t14 g =>
  oK (builtinL Try.prog .min [3, 3] [(.int .i64 (8)), t14] g) fun t15 g =>
  vK (binL Try.prog .gtr 3 true t15 (.int .i64 (0))) fun t17 =>
  ifB t17 (
  vK (nilCheckL x0) fun t19 =>
  vK (fieldAddrL 2 t19) fun t20 =>
  vK (loadV none t20 g) fun t21 =>
  vK (nilCheckL x0) fun t25 =>
  vK (fieldAddrL 3 t25) fun t26 =>
  vK (loadV none t26 g) fun t27 =>
  vK (cutT Try.prog 50 t27 none (some t15) none (limL t27 g)) fun t29 =>
  ((oK (buildSliceL Try.prog 50 0 [] g) fun t23 g =>
  ((loadV none t26 g) = some t27 ∧ ((loadV none t20 g) = some t21 ∧ 
  ((oK (builtinL Try.prog .append [50, 50] [t23, t29] g) fun t30 g =>
  ((loadV none t20 g) = some t21 ∧ 
  vK (ixAddrL none 1 t21 x1) fun t31 =>
  ((gK (storeV 1 t31 t30 g) fun g =>
  
  oK (buildSliceL Try.prog 50 0 [] g) fun t33 g =>
  vK (nilCheckL x0) fun t35 =>
  vK (fieldAddrL 3 t35) fun t36 =>
  vK (loadV none t36 g) fun t37 =>
  vK (cutT Try.prog 50 t37 (some t15) none none (limL t37 g)) fun t39 =>
  oK (builtinL Try.prog .append [50, 50] [t33, t39] g) fun t40 g =>
  vK (nilCheckL x0) fun t41 =>
  vK (fieldAddrL 3 t41) fun t42 =>
  gK (storeV 1 t42 t40 g) fun g =>
  K (.tuple []) g) ∧ True))) ∧ True)))) ∧ True)) (
  J86_0 x0 x1 g  K)
theorem ok86 {x0 x1 : LV} {g : LHeap} {K : LV → LHeap → Prop} (h : g.Wf → (∀ v ∈ ([x0, x1] : List LV), ∀ b ∈ v.objs, b < g.next) → F86 x0 x1 g K) : Ok Try.prog 86 [x0, x1] g K := by
  refine ok_fw Try.mixed Try.func86 (by kernel_rfl) (by kernel_rfl) (c := nd86 []) (by kernel_rfl) fun wf lt => ?_
  rw [← en86_eq]
  replace h := h wf lt
  generalize hs : startL _ = tm
  replace h : F86 (tm 0) (tm 1) g K := by rw [← hs]; exact h
  refine seq_i (a := nd86 [0]) (b := nd86 [1]) (k' := kj86_0  K) (by kernel_rfl) (fun st h => J86_0_ok  K st.tm st.g h) ?_
  try unfold F86 at h
  unfold kj86_0
  generalize @J86_0 = Q86_0 at h ⊢
  refine code3_sound ok_mono (pl := [(2, (.lt 0 false (.lt 1 false (.lt 2 false (.lt 3 true (.lt 4 false (.lt 6 false (.lt 7 false (.lt 8 false (.lt 9 true (.lt 10 false (.lt 11 false (.hv 5 (.hv 12 (.lt 13 false (.hv 14 .nil .nil)) .nil) .nil)))))))))))))]) _ _ _ (by kernel_rfl) ?_
  refine kmp ?_ h
  generalize Ok Try.prog = C
  try unfold en86
  as_aux_lemma => kernel_rfl

/-! parapet/parapetref06.with (34 slots) -/
noncomputable def en87 (K : LV → LHeap → Prop) : LEx → LSt → Prop := fun e st => match e with
  | .exit _ => False
  | _ => K (st.tm 4) st.g
theorem en87_eq (K : LV → LHeap → Prop) : en87 K = endL Try.prog Try.f87 K := by
  funext e st
  cases e <;> kernel_rfl
noncomputable def nd87 (p : List Nat) : Code := subC p (bodyC Try.prog 87)
noncomputable def J87_2 (x0 x1 x5 : LV) (g : LHeap)  (K : LV → LHeap → Prop) : Prop :=
  oK (buildSliceL Try.prog 50 0 [] g) fun t21 g =>
  vK (cutT Try.prog 50 x0 none (some x5) none (limL x0 g)) fun t24 =>
  oK (builtinL Try.prog .append [50, 50] [t21, t24] g) fun t25 g =>
  vK (cutT Try.prog 50 x0 (some x5) none none (limL x0 g)) fun t32 =>
  ((oK (buildSliceL Try.prog 50 1 [(0, x1)] g) fun t28 g =>
  
  ((oK (builtinL Try.prog .append [50, 50] [t25, t28] g) fun t29 g =>
  
  ((oK (builtinL Try.prog .append [50, 50] [t29, t32] g) fun t33 g =>
  
  K t33 g) ∧ True)) ∧ True)) ∧ True)
abbrev kj87_2  (K : LV → LHeap → Prop) : LSt → Prop := fun st => J87_2 (st.tm 0) (st.tm 1) (st.tm 5) st.g  K
theorem J87_2_ok  (K : LV → LHeap → Prop) (tm : Nat → LV) (g : LHeap) (h : J87_2 (tm 0) (tm 1) (tm 5) g  K) : codeL Try.prog (Ok Try.prog) (nd87 [1, 1, 1]) ⟨tm, g⟩ (en87 K) := by
  try unfold J87_2 at h
  refine code2_sound ok_mono _ _ _ ?_
  refine kmp ?_ h
  generalize Ok Try.prog = C
  try unfold en87
  as_aux_lemma => kernel_rfl

noncomputable def L87_3 (x0 x1 : LV) (x5 : LV) (g : LHeap) (N3 : LV → LHeap → Prop) (K : LV → LHeap → Prop) : Prop :=
  oK (builtinL Try.prog .len [50] [x0] g) fun t9 g =>
  vK (binL Try.prog .lss 3 false x5 t9) fun t10 =>
  gd t10 true g (fun K => K x0 g) fun t12 g =>
  gd t10 true g (fun K => K x5 g) fun t13 g =>
  gd t10 true g (fun K => vK (ixAddrL none 1 t12 t13) fun v => K v g) fun t14 g =>
  gd t10 true g (fun K => vK (loadV none t14 g) fun v => K v g) fun t15 g =>
  gd t10 true g (fun K => K x1 g) fun t16 g =>
  gd t10 true g (fun K => vK (binL Try.prog .lss 3 false t15 t16) fun v => K v g) fun t17 g =>
  vK (pickL t10 t17 (.bool false)) fun t18 =>
  ifB t18 (
  vK (binL Try.prog .add 3 true x5 (.int .i64 (1))) fun t20 =>
  N3 t20 g) (
  J87_2 x0 x1 x5 g  K)
theorem L87_3_ok (R3 : LV × LV → LV → LHeap → Prop) (K : LV → LHeap → Prop) (tm : Nat → LV) (g : LHeap) (h : L87_3 (tm 0) (tm 1) (tm 5) g (fun s g => R3 ((tm 0), (tm 1)) s g) K) : codeL Try.prog (Ok Try.prog) (nd87 [1, 1, 0, 0, 0]) ⟨tm, g⟩ (roundK (fun tm : Nat → LV => (tm 0, tm 1)) (fun tm : Nat → LV => tm 5) R3 (exitL 0 (thenL (kj87_2  K) (en87 K)))) := by
  try unfold L87_3 at h
  unfold kj87_2
  generalize @J87_2 = Q87_2 at h ⊢
  refine code2_sound ok_mono _ _ _ ?_
  refine kmp ?_ h
  generalize Ok Try.prog = C
  try unfold en87
  as_aux_lemma => kernel_rfl

noncomputable def J87_1 (x0 x1 x5 : LV) (g : LHeap)  (K : LV → LHeap → Prop) : Prop :=
  loopP (fun s g N => L87_3 x0 x1 s g N  K) x5 g
abbrev kj87_1  (K : LV → LHeap → Prop) : LSt → Prop := fun st => J87_1 (st.tm 0) (st.tm 1) (st.tm 5) st.g  K
theorem J87_1_ok  (K : LV → LHeap → Prop) (tm : Nat → LV) (g : LHeap) (h : J87_1 (tm 0) (tm 1) (tm 5) g  K) : codeL Try.prog (Ok Try.prog) (nd87 [1, 1]) ⟨tm, g⟩ (en87 K) := by
  refine seq_i (a := nd87 [1, 1, 0]) (b := nd87 [1, 1, 1]) (k' := kj87_2  K) (by kernel_rfl) (fun st h => J87_2_ok  K st.tm st.g h) ?_
  refine block_i (b := nd87 [1, 1, 0, 0]) (i := 0) (by kernel_rfl) ?_
  exact loop_glue (b := nd87 [1, 1, 0, 0, 0]) (by kernel_rfl) (fun tm : Nat → LV => (tm 0, tm 1)) (fun tm : Nat → LV => tm 5) (fun a s g N => L87_3 a.1 a.2 s g N  K) (fun tm g R h => L87_3_ok R  K tm g h) tm g h

noncomputable def J87_0 (x0 x1 : LV) (g : LHeap)  (K : LV → LHeap → Prop) : Prop :=
  J87_1 x0 x1 (.int .i64 (0)) g  K
abbrev kj87_0  (K : LV → LHeap → Prop) : LSt → Prop := fun st => J87_0 (st.tm 0) (st.tm 1) st.g  K
theorem J87_0_ok  (K : LV → LHeap → Prop) (tm : Nat → LV) (g : LHeap) (h : J87_0 (tm 0) (tm 1) g  K) : codeL Try.prog (Ok Try.prog) (nd87 [1]) ⟨tm, g⟩ (en87 K) := by
  refine seq_i (a := nd87 [1, 0]) (b := nd87 [1, 1]) (k' := kj87_1  K) (by kernel_rfl) (fun st h => J87_1_ok  K st.tm st.g h) ?_
  try unfold J87_0 at h
  unfold kj87_1
  generalize @J87_1 = Q87_1 at h ⊢
  refine code2_sound ok_mono _ _ _ ?_
  refine kmp ?_ h
  generalize Ok Try.prog = C
  try unfold en87
  as_aux_lemma => kernel_rfl

noncomputable def F87 (x0 x1 : LV) (g : LHeap) (K : LV → LHeap → Prop) : Prop :=
  J87_0 x0 x1 g  K
theorem ok87 {x0 x1 : LV} {g : LHeap} {K : LV → LHeap → Prop} (h : g.Wf → (∀ v ∈ ([x0, x1] : List LV), ∀ b ∈ v.objs, b < g.next) → F87 x0 x1 g K) : Ok Try.prog 87 [x0, x1] g K := by
  refine ok_fw Try.mixed Try.func87 (by kernel_rfl) (by kernel_rfl) (c := nd87 []) (by kernel_rfl) fun wf lt => ?_
  rw [← en87_eq]
  replace h := h wf lt
  generalize hs : startL _ = tm
  replace h : F87 (tm 0) (tm 1) g K := by rw [← hs]; exact h
  refine seq_i (a := nd87 [0]) (b := nd87 [1]) (k' := kj87_0  K) (by kernel_rfl) (fun st h => J87_0_ok  K st.tm st.g h) ?_
  try unfold F87 at h
  unfold kj87_0
  generalize @J87_0 = Q87_0 at h ⊢
  refine code2_sound ok_mono _ _ _ ?_
  refine kmp ?_ h
  generalize Ok Try.prog = C
  try unfold en87
  as_aux_lemma => kernel_rfl

end Go.Proofs.Ytoajcekgoalhjaa
