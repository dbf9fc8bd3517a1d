/-
  Functions of the program, as texts of named values.
-/
import Derived.Test.YtfbagndfifibiaaSa0
set_option linter.all false
namespace Go.Proofs.Ytfbagndfifibiaa
open Go.ChangeShapes Go.WideShapes Go.ChangeAt Go.RowKit Go.Lm
set_option maxRecDepth 1000000
set_option linter.unusedVariables false
/-! parapet/parapetlaw13.lives (60 slots) -/
noncomputable def en5 (K : LV → LHeap → Prop) : LEx → LSt → Prop := fun e st => match e with
  | .exit _ => False
  | _ => K (st.tm 0) st.g
theorem en5_eq (K : LV → LHeap → Prop) : en5 K = endL Try.prog Try.f5 K := by
  funext e st
  cases e <;> kernel_rfl
noncomputable def nd5 (p : List Nat) : Code := subC p (bodyC Try.prog 5)
noncomputable def F5 (g : LHeap) (K : LV → LHeap → Prop) : Prop :=
  Ok Try.prog 4 [(.int .i64 (20))] g fun t8 g =>
  vK (binL Try.prog .eql 23 true t8 .nilp) fun t10 =>
  ifB t10 (
  K (.bool false) g) (
  vK (nilCheckP Try.prog t8) fun t13 =>
  vK (fieldAddrL 3 t13) fun t14 =>
  vK (loadV none t14 g) fun t15 =>
  Ok Try.prog 6 [t15, (.int .i64 (0))] g fun t16 g =>
  vK (extractL t16 0) fun t17 =>
  vK (extractL t16 1) fun t18 =>
  vK (binL Try.prog .neq 27 true t18 (.int .i64 (0))) fun t20 =>
  gd t20 false g (fun K => K t17 g) fun t22 g =>
  gd t20 false g (fun K => vK (binL Try.prog .eql 26 true t22 .nilp) fun v => K v g) fun t23 g =>
  vK (pickL t20 (.bool true) t23) fun t24 =>
  gd t24 false g (fun K => K t17 g) fun t26 g =>
  gd t24 false g (fun K => Ok Try.prog 14 [t26, (.int .i64 (0)), (.int .i64 (2))] g K) fun t27 g =>
  gd t24 false g (fun K => vK (binL Try.prog .neq 27 true t27 (.int .i64 (0))) fun v => K v g) fun t28 g =>
  vK (pickL t24 (.bool true) t28) fun t29 =>
  ifB t29 (
  K (.bool false) g) (
  Ok Try.prog 15 [t17, (.int .i64 (0)), (.int .u32 (5)), (.bool true)] g fun t32 g =>
  vK (extractL t32 0) fun t33 =>
  vK (extractL t32 1) fun t34 =>
  Ok Try.prog 16 [t17, (.int .i64 (0)), (.int .u32 (5)), (.bool true), .nils] g fun t37 g =>
  vK (extractL t37 0) fun t38 =>
  vK (extractL t37 1) fun t39 =>
  oK (newL (.agg [(.int .i64 (0)), .nils]) g) fun t5 g =>
  gK (storeV 2 t5 t39 g) fun g =>
  Ok Try.prog 15 [t17, (.int .i64 (0)), (.int .u32 (5)), (.bool true)] g fun t42 g =>
  vK (extractL t42 0) fun t43 =>
  vK (extractL t42 1) fun t44 =>
  vK (binL Try.prog .eql 27 true t34 (.int .i64 (51))) fun t46 =>
  gd t46 true g (fun K => K t38 g) fun t48 g =>
  gd t46 true g (fun K => vK (binL Try.prog .eql 3 true t48 (.int .i64 (1))) fun v => K v g) fun t49 g =>
  vK (pickL t46 t49 (.bool false)) fun t50 =>
  gd t50 true g (fun K => K t44 g) fun t52 g =>
  gd t50 true g (fun K => vK (binL Try.prog .eql 27 true t52 (.int .i64 (0))) fun v => K v g) fun t53 g =>
  vK (pickL t50 t53 (.bool false)) fun t54 =>
  gd t54 true g (fun K => K t17 g) fun t56 g =>
  gd t54 true g (fun K => Ok Try.prog 17 [t56] g K) fun t57 g =>
  gd t54 true g (fun K => vK (binL Try.prog .eql 3 true t57 (.int .i64 (3))) fun v => K v g) fun t58 g =>
  vK (pickL t54 t58 (.bool false)) fun t59 =>
  K t59 g))
theorem ok5 {g : LHeap} {K : LV → LHeap → Prop} (h : g.Wf → (∀ v ∈ ([] : List LV), ∀ b ∈ v.objs, b < g.next) → F5  g K) : Ok Try.prog 5 [] g K := by
  refine ok_fw Try.mixed Try.func5 (by kernel_rfl) (by kernel_rfl) (c := nd5 []) (by kernel_rfl) fun wf lt => ?_
  rw [← en5_eq]
  replace h := h wf lt
  generalize startL _ = tm
  try unfold F5 at h
  refine code2_sound ok_mono _ _ _ ?_
  refine kmp ?_ h
  generalize Ok Try.prog = C
  try unfold en5
  as_aux_lemma => kernel_rfl

/-! (*parapet/space.Space).Map (36 slots) -/
noncomputable def en14 (K : LV → LHeap → Prop) : LEx → LSt → Prop := fun e st => match e with
  | .exit _ => False
  | _ => K (st.tm 6) st.g
theorem en14_eq (K : LV → LHeap → Prop) : en14 K = endL Try.prog Try.f14 K := by
  funext e st
  cases e <;> kernel_rfl
noncomputable def nd14 (p : List Nat) : Code := subC p (bodyC Try.prog 14)
noncomputable def J14_2 (g : LHeap)  (K : LV → LHeap → Prop) : Prop :=
  K (.int .i64 (0)) g
abbrev kj14_2  (K : LV → LHeap → Prop) : LSt → Prop := fun st => J14_2  st.g  K
theorem J14_2_ok  (K : LV → LHeap → Prop) (tm : Nat → LV) (g : LHeap) (h : J14_2  g  K) : codeL Try.prog (Ok Try.prog) (nd14 [1, 1, 1]) ⟨tm, g⟩ (en14 K) := by
  try unfold J14_2 at h
  refine code2_sound ok_mono _ _ _ ?_
  refine kmp ?_ h
  generalize Ok Try.prog = C
  try unfold en14
  as_aux_lemma => kernel_rfl

noncomputable def L14_4 (x0 x1 x2 : LV) (x7 : LV) (g : LHeap) (N4 : LV → LHeap → Prop) (K : LV → LHeap → Prop) : Prop :=
  vK (binL Try.prog .add 3 false x1 x2) fun t27 =>
  vK (binL Try.prog .lss 3 false x7 t27) fun t28 =>
  ifB t28 (
  vK (nilCheckP Try.prog x0) fun t33 =>
  vK (fieldAddrL 3 t33) fun t34 =>
  vK (ixAddrL (some 256) 1 t34 x7) fun t35 =>
  gK (storeV 1 t35 (.bool true) g) fun g =>
  vK (binL Try.prog .add 3 true x7 (.int .i64 (1))) fun t30 =>
  N4 t30 g) (
  J14_2  g  K)
theorem L14_4_ok (R4 : LV × LV × LV → LV → LHeap → Prop) (K : LV → LHeap → Prop) (tm : Nat → LV) (g : LHeap) (h : L14_4 (tm 0) (tm 1) (tm 2) (tm 7) g (fun s g => R4 ((tm 0), (tm 1), (tm 2)) s g) K) : codeL Try.prog (Ok Try.prog) (nd14 [1, 1, 0, 1, 0, 0]) ⟨tm, g⟩ (roundK (fun tm : Nat → LV => (tm 0, tm 1, tm 2)) (fun tm : Nat → LV => tm 7) R4 (exitL 1 (thenL (kj14_2  K) (en14 K)))) := by
  try unfold L14_4 at h
  unfold kj14_2
  generalize @J14_2 = Q14_2 at h ⊢
  refine code2_sound ok_mono _ _ _ ?_
  refine kmp ?_ h
  generalize Ok Try.prog = C
  try unfold en14
  as_aux_lemma => kernel_rfl

noncomputable def J14_3 (x0 x1 x2 x7 : LV) (g : LHeap)  (K : LV → LHeap → Prop) : Prop :=
  loopP (fun s g N => L14_4 x0 x1 x2 s g N  K) x7 g
abbrev kj14_3  (K : LV → LHeap → Prop) : LSt → Prop := fun st => J14_3 (st.tm 0) (st.tm 1) (st.tm 2) (st.tm 7) st.g  K
theorem J14_3_ok  (K : LV → LHeap → Prop) (tm : Nat → LV) (g : LHeap) (h : J14_3 (tm 0) (tm 1) (tm 2) (tm 7) g  K) : codeL Try.prog (Ok Try.prog) (nd14 [1, 1, 0, 1]) ⟨tm, g⟩ (thenL (kj14_2  K) (en14 K)) := by
  refine block_i (b := nd14 [1, 1, 0, 1, 0]) (i := 1) (by kernel_rfl) ?_
  exact loop_glue (b := nd14 [1, 1, 0, 1, 0, 0]) (by kernel_rfl) (fun tm : Nat → LV => (tm 0, tm 1, tm 2)) (fun tm : Nat → LV => tm 7) (fun a s g N => L14_4 a.1 a.2.1 a.2.2 s g N  K) (fun tm g R h => L14_4_ok R  K tm g h) tm g h

noncomputable def J14_1 (x0 x1 x2 : LV) (g : LHeap)  (K : LV → LHeap → Prop) : Prop :=
  J14_3 x0 x1 x2 x1 g  K
abbrev kj14_1  (K : LV → LHeap → Prop) : LSt → Prop := fun st => J14_1 (st.tm 0) (st.tm 1) (st.tm 2) st.g  K
theorem J14_1_ok  (K : LV → LHeap → Prop) (tm : Nat → LV) (g : LHeap) (h : J14_1 (tm 0) (tm 1) (tm 2) g  K) : codeL Try.prog (Ok Try.prog) (nd14 [1, 1]) ⟨tm, g⟩ (en14 K) := by
  refine seq_i (a := nd14 [1, 1, 0]) (b := nd14 [1, 1, 1]) (k' := kj14_2  K) (by kernel_rfl) (fun st h => J14_2_ok  K st.tm st.g h) ?_
  refine seq_i (a := nd14 [1, 1, 0, 0]) (b := nd14 [1, 1, 0, 1]) (k' := kj14_3  K) (by kernel_rfl) (fun st h => J14_3_ok  K st.tm st.g h) ?_
  try unfold J14_1 at h
  unfold kj14_3
  generalize @J14_3 = Q14_3 at h ⊢
  unfold kj14_2
  generalize @J14_2 = Q14_2 at h ⊢
  refine code2_sound ok_mono _ _ _ ?_
  refine kmp ?_ h
  generalize Ok Try.prog = C
  try unfold en14
  as_aux_lemma => kernel_rfl

noncomputable def J14_0 (x0 x1 x2 : LV) (g : LHeap)  (K : LV → LHeap → Prop) : Prop :=
  Ok Try.prog 20 [x0] g fun t10 g =>
  vK (unL .not t10) fun t11 =>
  ifB t11 (
  K (.int .i64 (6)) g) (
  Ok Try.prog 23 [x1, x2] g fun t15 g =>
  vK (unL .not t15) fun t16 =>
  ifB t16 (
  K (.int .i64 (1)) g) (
  Ok Try.prog 24 [x0, x1, x2] g fun t21 g =>
  vK (unL .not t21) fun t22 =>
  ifB t22 (
  K (.int .i64 (130)) g) (
  J14_1 x0 x1 x2 g  K)))
abbrev kj14_0  (K : LV → LHeap → Prop) : LSt → Prop := fun st => J14_0 (st.tm 0) (st.tm 1) (st.tm 2) st.g  K
theorem J14_0_ok  (K : LV → LHeap → Prop) (tm : Nat → LV) (g : LHeap) (h : J14_0 (tm 0) (tm 1) (tm 2) g  K) : codeL Try.prog (Ok Try.prog) (nd14 [1]) ⟨tm, g⟩ (en14 K) := by
  refine seq_i (a := nd14 [1, 0]) (b := nd14 [1, 1]) (k' := kj14_1  K) (by kernel_rfl) (fun st h => J14_1_ok  K st.tm st.g h) ?_
  try unfold J14_0 at h
  unfold kj14_1
  generalize @J14_1 = Q14_1 at h ⊢
  refine code2_sound ok_mono _ _ _ ?_
  refine kmp ?_ h
  generalize Ok Try.prog = C
  try unfold en14
  as_aux_lemma => kernel_rfl

noncomputable def F14 (x0 x1 x2 : LV) (g : LHeap) (K : LV → LHeap → Prop) : Prop :=
  J14_0 x0 x1 x2 g  K
theorem ok14 {x0 x1 x2 : LV} {g : LHeap} {K : LV → LHeap → Prop} (h : g.Wf → (∀ v ∈ ([x0, x1, x2] : List LV), ∀ b ∈ v.objs, b < g.next) → F14 x0 x1 x2 g K) : Ok Try.prog 14 [x0, x1, x2] g K := by
  refine ok_fw Try.mixed Try.func14 (by kernel_rfl) (by kernel_rfl) (c := nd14 []) (by kernel_rfl) fun wf lt => ?_
  rw [← en14_eq]
  replace h := h wf lt
  generalize hs : startL _ = tm
  replace h : F14 (tm 0) (tm 1) (tm 2) g K := by rw [← hs]; exact h
  refine seq_i (a := nd14 [0]) (b := nd14 [1]) (k' := kj14_0  K) (by kernel_rfl) (fun st h => J14_0_ok  K st.tm st.g h) ?_
  try unfold F14 at h
  unfold kj14_0
  generalize @J14_0 = Q14_0 at h ⊢
  refine code2_sound ok_mono _ _ _ ?_
  refine kmp ?_ h
  generalize Ok Try.prog = C
  try unfold en14
  as_aux_lemma => kernel_rfl

/-! (*parapet/space.Space).Touch (92 slots) -/
noncomputable def en15 (K : LV → LHeap → Prop) : LEx → LSt → Prop := fun e st => match e with
  | .exit _ => False
  | _ => K (.tuple [(st.tm 8), (st.tm 9)]) st.g
theorem en15_eq (K : LV → LHeap → Prop) : en15 K = endL Try.prog Try.f15 K := by
  funext e st
  cases e <;> kernel_rfl
noncomputable def nd15 (p : List Nat) : Code := subC p (bodyC Try.prog 15)
noncomputable def J15_5 (x2 x3 x11 : LV) (g : LHeap)  (K : LV → LHeap → Prop) : Prop :=
  gd x3 true g (fun K => K x11 g) fun t80 g =>
  gd x3 true g (fun K => Ok Try.prog 30 [t80] g K) fun t81 g =>
  gd x3 true g (fun K => vK (binL Try.prog .and 3 true t81 (.int .i64 (2))) fun v => K v g) fun t82 g =>
  gd x3 true g (fun K => vK (binL Try.prog .eql 3 true t82 (.int .i64 (0))) fun v => K v g) fun t83 g =>
  vK (pickL x3 t83 (.bool false)) fun t84 =>
  ifB t84 (
  K (.tuple [(.int .i64 (0)), (.int .i64 (51))]) g) (
  Ok Try.prog 31 [x11] g fun t86 g =>
  vK (binL Try.prog .mul 3 true t86 (.int .i64 (256))) fun t87 =>
  vK (binL Try.prog .and 53 true x2 (.int .u32 (255))) fun t89 =>
  oK (convL Try.prog 53 3 t89 g) fun t90 g =>
  vK (binL Try.prog .add 3 false t87 t90) fun t91 =>
  K (.tuple [t91, (.int .i64 (0))]) g)
abbrev kj15_5  (K : LV → LHeap → Prop) : LSt → Prop := fun st => J15_5 (st.tm 2) (st.tm 3) (st.tm 11) st.g  K
theorem J15_5_ok  (K : LV → LHeap → Prop) (tm : Nat → LV) (g : LHeap) (h : J15_5 (tm 2) (tm 3) (tm 11) g  K) : codeL Try.prog (Ok Try.prog) (nd15 [1, 1, 1, 1, 1, 1]) ⟨tm, g⟩ (en15 K) := by
  try unfold J15_5 at h
  refine code2_sound ok_mono _ _ _ ?_
  refine kmp ?_ h
  generalize Ok Try.prog = C
  try unfold en15
  as_aux_lemma => kernel_rfl

noncomputable def J15_4 (x0 x1 x2 x3 x10 x11 x12 : LV) (g : LHeap)  (K : LV → LHeap → Prop) : Prop :=
  vK (unL .not x12) fun t53 =>
  ifB t53 (
  vK (nilCheckP Try.prog x0) fun t56 =>
  vK (fieldAddrL 2 t56) fun t57 =>
  vK (loadV none t57 g) fun t58 =>
  Ok Try.prog 28 [t58, x10] g fun t60 g =>
  vK (extractL t60 0) fun t61 =>
  vK (extractL t60 1) fun t62 =>
  vK (binL Try.prog .eql 53 true t61 (.int .u32 (0))) fun t64 =>
  ifB t64 (
  K (.tuple [(.int .i64 (0)), (.int .i64 (51))]) g) (
  vK (nilCheckP Try.prog x0) fun t66 =>
  vK (fieldAddrL 0 t66) fun t67 =>
  vK (loadV none t67 g) fun t68 =>
  vK (nilCheckP Try.prog t68) fun t69 =>
  vK (fieldAddrL 2 t69) fun t70 =>
  vK (loadV none t70 g) fun t71 =>
  ((Ok Try.prog 27 [x0, x10] g fun t75 g =>
  ((loadV none t70 g) = some t71 ∧ ((loadV none t67 g) = some t68 ∧ 
  ((Ok Try.prog 29 [t71, x1, t75, t61] g fun t77 g =>
  
  J15_5 x2 x3 t61 g  K) ∧ True)))) ∧ True))) (
  J15_5 x2 x3 x11 g  K)
abbrev kj15_4  (K : LV → LHeap → Prop) : LSt → Prop := fun st => J15_4 (st.tm 0) (st.tm 1) (st.tm 2) (st.tm 3) (st.tm 10) (st.tm 11) (st.tm 12) st.g  K
theorem J15_4_ok  (K : LV → LHeap → Prop) (tm : Nat → LV) (g : LHeap) (h : J15_4 (tm 0) (tm 1) (tm 2) (tm 3) (tm 10) (tm 11) (tm 12) g  K) : codeL Try.prog (Ok Try.prog) (nd15 [1, 1, 1, 1, 1]) ⟨tm, g⟩ (en15 K) := by
  refine seq_i (a := nd15 [1, 1, 1, 1, 1, 0]) (b := nd15 [1, 1, 1, 1, 1, 1]) (k' := kj15_5  K) (by kernel_rfl) (fun st h => J15_5_ok  K st.tm st.g h) ?_
  try unfold J15_4 at h
  unfold kj15_5
  generalize @J15_5 = Q15_5 at h ⊢
  refine code3_sound ok_mono (pl := [(11, (.lt 0 false (.lt 1 false (.lt 2 false (.lt 3 true (.lt 4 false (.lt 5 false (.lt 6 true (.lt 7 false (.lt 8 false (.lt 9 false (.lt 11 false (.hv 10 (.hv 12 .nil .nil) .nil)))))))))))))]) _ _ _ (by kernel_rfl) ?_
  refine kmp ?_ h
  generalize Ok Try.prog = C
  try unfold en15
  as_aux_lemma => kernel_rfl

noncomputable def J15_3 (x0 x1 x2 x3 x10 : LV) (g : LHeap)  (K : LV → LHeap → Prop) : Prop :=
  vK (nilCheckP Try.prog x0) fun t39 =>
  vK (fieldAddrL 0 t39) fun t40 =>
  vK (loadV none t40 g) fun t41 =>
  vK (nilCheckP Try.prog t41) fun t42 =>
  vK (fieldAddrL 2 t42) fun t43 =>
  vK (loadV none t43 g) fun t44 =>
  ((Ok Try.prog 27 [x0, x10] g fun t48 g =>
  ((loadV none t43 g) = some t44 ∧ ((loadV none t40 g) = some t41 ∧ 
  ((Ok Try.prog 26 [t44, x1, t48] g fun t49 g =>
  
  vK (extractL t49 0) fun t50 =>
  vK (extractL t49 1) fun t51 =>
  J15_4 x0 x1 x2 x3 x10 t50 t51 g  K) ∧ True)))) ∧ True)
abbrev kj15_3  (K : LV → LHeap → Prop) : LSt → Prop := fun st => J15_3 (st.tm 0) (st.tm 1) (st.tm 2) (st.tm 3) (st.tm 10) st.g  K
theorem J15_3_ok  (K : LV → LHeap → Prop) (tm : Nat → LV) (g : LHeap) (h : J15_3 (tm 0) (tm 1) (tm 2) (tm 3) (tm 10) g  K) : codeL Try.prog (Ok Try.prog) (nd15 [1, 1, 1, 1]) ⟨tm, g⟩ (en15 K) := by
  refine seq_i (a := nd15 [1, 1, 1, 1, 0]) (b := nd15 [1, 1, 1, 1, 1]) (k' := kj15_4  K) (by kernel_rfl) (fun st h => J15_4_ok  K st.tm st.g h) ?_
  try unfold J15_3 at h
  unfold kj15_4
  generalize @J15_4 = Q15_4 at h ⊢
  refine code3_sound ok_mono (pl := [(6, (.lt 0 false (.lt 1 false (.lt 2 false (.lt 3 true (.lt 4 false (.lt 5 false (.lt 6 true (.lt 7 false (.lt 8 false (.lt 9 false (.hv 10 (.hv 11 (.lt 12 false (.lt 13 false (.lt 14 false (.lt 15 false (.lt 16 false .nil))))) .nil) .nil))))))))))))]) _ _ _ (by kernel_rfl) ?_
  refine kmp ?_ h
  generalize Ok Try.prog = C
  try unfold en15
  as_aux_lemma => kernel_rfl

noncomputable def J15_2 (x0 x1 x2 x3 x10 : LV) (g : LHeap)  (K : LV → LHeap → Prop) : Prop :=
  vK (binL Try.prog .geq 3 true x10 (.int .i64 (256))) fun t20 =>
  gd t20 false g (fun K => K x1 g) fun t22 g =>
  gd t20 false g (fun K => vK (binL Try.prog .lss 3 true t22 (.int .i64 (0))) fun v => K v g) fun t23 g =>
  vK (pickL t20 (.bool true) t23) fun t24 =>
  gd t24 false g (fun K => K x1 g) fun t26 g =>
  gd t24 false g (fun K => K x0 g) fun t27 g =>
  gd t24 false g (fun K => vK (nilCheckP Try.prog t27) fun v => K v g) fun t28 g =>
  gd t24 false g (fun K => vK (fieldAddrL 0 t28) fun v => K v g) fun t29 g =>
  gd t24 false g (fun K => vK (loadV none t29 g) fun v => K v g) fun t30 g =>
  gd t24 false g (fun K => vK (nilCheckP Try.prog t30) fun v => K v g) fun t31 g =>
  gd t24 false g (fun K => vK (fieldAddrL 2 t31) fun v => K v g) fun t32 g =>
  gd t24 false g (fun K => vK (loadV none t32 g) fun v => K v g) fun t33 g =>
  gd t24 false g (fun K => Ok Try.prog 25 [t33] g K) fun t34 g =>
  gd t24 false g (fun K => vK (binL Try.prog .geq 3 false t26 t34) fun v => K v g) fun t35 g =>
  vK (pickL t24 (.bool true) t35) fun t36 =>
  ifB t36 (
  K (.tuple [(.int .i64 (0)), (.int .i64 (51))]) g) (
  J15_3 x0 x1 x2 x3 x10 g  K)
abbrev kj15_2  (K : LV → LHeap → Prop) : LSt → Prop := fun st => J15_2 (st.tm 0) (st.tm 1) (st.tm 2) (st.tm 3) (st.tm 10) st.g  K
theorem J15_2_ok  (K : LV → LHeap → Prop) (tm : Nat → LV) (g : LHeap) (h : J15_2 (tm 0) (tm 1) (tm 2) (tm 3) (tm 10) g  K) : codeL Try.prog (Ok Try.prog) (nd15 [1, 1, 1]) ⟨tm, g⟩ (en15 K) := by
  refine seq_i (a := nd15 [1, 1, 1, 0]) (b := nd15 [1, 1, 1, 1]) (k' := kj15_3  K) (by kernel_rfl) (fun st h => J15_3_ok  K st.tm st.g h) ?_
  try unfold J15_2 at h
  unfold kj15_3
  generalize @J15_3 = Q15_3 at h ⊢
  refine code2_sound ok_mono _ _ _ ?_
  refine kmp ?_ h
  generalize Ok Try.prog = C
  try unfold en15
  as_aux_lemma => kernel_rfl

noncomputable def J15_1 (x0 x1 x2 x3 : LV) (g : LHeap)  (K : LV → LHeap → Prop) : Prop :=
  vK (binL Try.prog .shr 53 true x2 (.int .u64 (8))) fun t17 =>
  oK (convL Try.prog 53 3 t17 g) fun t18 g =>
  J15_2 x0 x1 x2 x3 t18 g  K
abbrev kj15_1  (K : LV → LHeap → Prop) : LSt → Prop := fun st => J15_1 (st.tm 0) (st.tm 1) (st.tm 2) (st.tm 3) st.g  K
theorem J15_1_ok  (K : LV → LHeap → Prop) (tm : Nat → LV) (g : LHeap) (h : J15_1 (tm 0) (tm 1) (tm 2) (tm 3) g  K) : codeL Try.prog (Ok Try.prog) (nd15 [1, 1]) ⟨tm, g⟩ (en15 K) := by
  refine seq_i (a := nd15 [1, 1, 0]) (b := nd15 [1, 1, 1]) (k' := kj15_2  K) (by kernel_rfl) (fun st h => J15_2_ok  K st.tm st.g h) ?_
  try unfold J15_1 at h
  unfold kj15_2
  generalize @J15_2 = Q15_2 at h ⊢
  refine code2_sound ok_mono _ _ _ ?_
  refine kmp ?_ h
  generalize Ok Try.prog = C
  try unfold en15
  as_aux_lemma => kernel_rfl

noncomputable def J15_0 (x0 x1 x2 x3 : LV) (g : LHeap)  (K : LV → LHeap → Prop) : Prop :=
  Ok Try.prog 20 [x0] g fun t14 g =>
  vK (unL .not t14) fun t15 =>
  ifB t15 (
  K (.tuple [(.int .i64 (0)), (.int .i64 (6))]) g) (
  J15_1 x0 x1 x2 x3 g  K)
abbrev kj15_0  (K : LV → LHeap → Prop) : LSt → Prop := fun st => J15_0 (st.tm 0) (st.tm 1) (st.tm 2) (st.tm 3) st.g  K
theorem J15_0_ok  (K : LV → LHeap → Prop) (tm : Nat → LV) (g : LHeap) (h : J15_0 (tm 0) (tm 1) (tm 2) (tm 3) g  K) : codeL Try.prog (Ok Try.prog) (nd15 [1]) ⟨tm, g⟩ (en15 K) := by
  refine seq_i (a := nd15 [1, 0]) (b := nd15 [1, 1]) (k' := kj15_1  K) (by kernel_rfl) (fun st h => J15_1_ok  K st.tm st.g h) ?_
  try unfold J15_0 at h
  unfold kj15_1
  generalize @J15_1 = Q15_1 at h ⊢
  refine code2_sound ok_mono _ _ _ ?_
  refine kmp ?_ h
  generalize Ok Try.prog = C
  try unfold en15
  as_aux_lemma => kernel_rfl

noncomputable def F15 (x0 x1 x2 x3 : LV) (g : LHeap) (K : LV → LHeap → Prop) : Prop :=
  J15_0 x0 x1 x2 x3 g  K
theorem ok15 {x0 x1 x2 x3 : LV} {g : LHeap} {K : LV → LHeap → Prop} (h : g.Wf → (∀ v ∈ ([x0, x1, x2, x3] : List LV), ∀ b ∈ v.objs, b < g.next) → F15 x0 x1 x2 x3 g K) : Ok Try.prog 15 [x0, x1, x2, x3] g K := by
  refine ok_fw Try.mixed Try.func15 (by kernel_rfl) (by kernel_rfl) (c := nd15 []) (by kernel_rfl) fun wf lt => ?_
  rw [← en15_eq]
  replace h := h wf lt
  generalize hs : startL _ = tm
  replace h : F15 (tm 0) (tm 1) (tm 2) (tm 3) g K := by rw [← hs]; exact h
  refine seq_i (a := nd15 [0]) (b := nd15 [1]) (k' := kj15_0  K) (by kernel_rfl) (fun st h => J15_0_ok  K st.tm st.g h) ?_
  try unfold F15 at h
  unfold kj15_0
  generalize @J15_0 = Q15_0 at h ⊢
  refine code2_sound ok_mono _ _ _ ?_
  refine kmp ?_ h
  generalize Ok Try.prog = C
  try unfold en15
  as_aux_lemma => kernel_rfl

/-! (*parapet/space.Space).Fault (68 slots) -/
noncomputable def en16 (K : LV → LHeap → Prop) : LEx → LSt → Prop := fun e st => match e with
  | .exit _ => False
  | _ => retC Try.prog [.tmp 10, .cell 11 55] [(10, (st.tm 10)), (11, (st.tm 11))] st.g K
theorem en16_eq (K : LV → LHeap → Prop) : en16 K = endL Try.prog Try.f16 K := by
  funext e st
  cases e <;> kernel_rfl
noncomputable def nd16 (p : List Nat) : Code := subC p (bodyC Try.prog 16)
noncomputable def J16_4 (x0 x1 x11 : LV) (g : LHeap)  (K : LV → LHeap → Prop) : Prop :=
  Ok Try.prog 35 [x0, x1] g fun t65 g =>
  vK (extractL t65 0) fun t66 =>
  vK (extractL t65 1) fun t67 =>
  gK (storeV 2 x11 t67 g) fun g =>
  retC Try.prog [.tmp 10, .cell 11 55] [(10, t66), (11, x11)] g K
abbrev kj16_4  (K : LV → LHeap → Prop) : LSt → Prop := fun st => J16_4 (st.tm 0) (st.tm 1) (st.tm 11) st.g  K
theorem J16_4_ok  (K : LV → LHeap → Prop) (tm : Nat → LV) (g : LHeap) (h : J16_4 (tm 0) (tm 1) (tm 11) g  K) : codeL Try.prog (Ok Try.prog) (nd16 [1, 1, 1, 1, 1]) ⟨tm, g⟩ (en16 K) := by
  try unfold J16_4 at h
  refine code2_sound ok_mono _ _ _ ?_
  refine kmp ?_ h
  generalize Ok Try.prog = C
  try unfold en16
  as_aux_lemma => kernel_rfl

noncomputable def J16_3 (x0 x1 x3 x4 x11 x12 x13 : LV) (g : LHeap)  (K : LV → LHeap → Prop) : Prop :=
  vK (binL Try.prog .eql 53 true x13 (.int .u32 (0))) fun t36 =>
  ifB t36 (
  Ok Try.prog 33 [x0, x1, x12, (.int .i64 (2))] g fun t41 g =>
  vK (extractL t41 0) fun t42 =>
  vK (extractL t41 1) fun t43 =>
  vK (unL .not t43) fun t45 =>
  ifB t45 (
  vK (buildL Try.prog 55 []) fun t46 =>
  gK (storeV 2 x11 t46 g) fun g =>
  retC Try.prog [.tmp 10, .cell 11 55] [(10, (.int .i64 (3))), (11, x11)] g K) (
  J16_4 x0 x1 x11 g  K)) (
  gd x3 true g (fun K => K x13 g) fun t50 g =>
  gd x3 true g (fun K => Ok Try.prog 30 [t50] g K) fun t51 g =>
  gd x3 true g (fun K => vK (binL Try.prog .and 3 true t51 (.int .i64 (4))) fun v => K v g) fun t52 g =>
  gd x3 true g (fun K => vK (binL Try.prog .neq 3 true t52 (.int .i64 (0))) fun v => K v g) fun t53 g =>
  vK (pickL x3 t53 (.bool false)) fun t54 =>
  ifB t54 (
  Ok Try.prog 34 [x0, x1, x12, x13, x4] g fun t60 g =>
  vK (extractL t60 0) fun t61 =>
  vK (extractL t60 1) fun t62 =>
  gK (storeV 2 x11 t62 g) fun g =>
  retC Try.prog [.tmp 10, .cell 11 55] [(10, t61), (11, x11)] g K) (
  J16_4 x0 x1 x11 g  K))
abbrev kj16_3  (K : LV → LHeap → Prop) : LSt → Prop := fun st => J16_3 (st.tm 0) (st.tm 1) (st.tm 3) (st.tm 4) (st.tm 11) (st.tm 12) (st.tm 13) st.g  K
theorem J16_3_ok  (K : LV → LHeap → Prop) (tm : Nat → LV) (g : LHeap) (h : J16_3 (tm 0) (tm 1) (tm 3) (tm 4) (tm 11) (tm 12) (tm 13) g  K) : codeL Try.prog (Ok Try.prog) (nd16 [1, 1, 1, 1]) ⟨tm, g⟩ (en16 K) := by
  refine seq_i (a := nd16 [1, 1, 1, 1, 0]) (b := nd16 [1, 1, 1, 1, 1]) (k' := kj16_4  K) (by kernel_rfl) (fun st h => J16_4_ok  K st.tm st.g h) ?_
  try unfold J16_3 at h
  unfold kj16_4
  generalize @J16_4 = Q16_4 at h ⊢
  refine code2_sound ok_mono _ _ _ ?_
  refine kmp ?_ h
  generalize Ok Try.prog = C
  try unfold en16
  as_aux_lemma => kernel_rfl

noncomputable def J16_2 (x0 x1 x3 x4 x11 x12 : LV) (g : LHeap)  (K : LV → LHeap → Prop) : Prop :=
  vK (nilCheckP Try.prog x0) fun t27 =>
  vK (fieldAddrL 2 t27) fun t28 =>
  vK (loadV none t28 g) fun t29 =>
  Ok Try.prog 28 [t29, x12] g fun t31 g =>
  vK (extractL t31 0) fun t32 =>
  vK (extractL t31 1) fun t33 =>
  J16_3 x0 x1 x3 x4 x11 x12 t32 g  K
abbrev kj16_2  (K : LV → LHeap → Prop) : LSt → Prop := fun st => J16_2 (st.tm 0) (st.tm 1) (st.tm 3) (st.tm 4) (st.tm 11) (st.tm 12) st.g  K
theorem J16_2_ok  (K : LV → LHeap → Prop) (tm : Nat → LV) (g : LHeap) (h : J16_2 (tm 0) (tm 1) (tm 3) (tm 4) (tm 11) (tm 12) g  K) : codeL Try.prog (Ok Try.prog) (nd16 [1, 1, 1]) ⟨tm, g⟩ (en16 K) := by
  refine seq_i (a := nd16 [1, 1, 1, 0]) (b := nd16 [1, 1, 1, 1]) (k' := kj16_3  K) (by kernel_rfl) (fun st h => J16_3_ok  K st.tm st.g h) ?_
  try unfold J16_2 at h
  unfold kj16_3
  generalize @J16_3 = Q16_3 at h ⊢
  refine code2_sound ok_mono _ _ _ ?_
  refine kmp ?_ h
  generalize Ok Try.prog = C
  try unfold en16
  as_aux_lemma => kernel_rfl

noncomputable def J16_1 (x0 x1 x3 x4 x11 x12 : LV) (g : LHeap)  (K : LV → LHeap → Prop) : Prop :=
  Ok Try.prog 32 [x0, x12] g fun t22 g =>
  vK (unL .not t22) fun t23 =>
  ifB t23 (
  vK (buildL Try.prog 55 []) fun t24 =>
  gK (storeV 2 x11 t24 g) fun g =>
  retC Try.prog [.tmp 10, .cell 11 55] [(10, (.int .i64 (2))), (11, x11)] g K) (
  J16_2 x0 x1 x3 x4 x11 x12 g  K)
abbrev kj16_1  (K : LV → LHeap → Prop) : LSt → Prop := fun st => J16_1 (st.tm 0) (st.tm 1) (st.tm 3) (st.tm 4) (st.tm 11) (st.tm 12) st.g  K
theorem J16_1_ok  (K : LV → LHeap → Prop) (tm : Nat → LV) (g : LHeap) (h : J16_1 (tm 0) (tm 1) (tm 3) (tm 4) (tm 11) (tm 12) g  K) : codeL Try.prog (Ok Try.prog) (nd16 [1, 1]) ⟨tm, g⟩ (en16 K) := by
  refine seq_i (a := nd16 [1, 1, 0]) (b := nd16 [1, 1, 1]) (k' := kj16_2  K) (by kernel_rfl) (fun st h => J16_2_ok  K st.tm st.g h) ?_
  try unfold J16_1 at h
  unfold kj16_2
  generalize @J16_2 = Q16_2 at h ⊢
  refine code2_sound ok_mono _ _ _ ?_
  refine kmp ?_ h
  generalize Ok Try.prog = C
  try unfold en16
  as_aux_lemma => kernel_rfl

noncomputable def J16_0 (x0 x1 x2 x3 x4 x11 : LV) (g : LHeap)  (K : LV → LHeap → Prop) : Prop :=
  vK (binL Try.prog .shr 53 true x2 (.int .u64 (8))) fun t18 =>
  oK (convL Try.prog 53 3 t18 g) fun t19 g =>
  J16_1 x0 x1 x3 x4 x11 t19 g  K
abbrev kj16_0  (K : LV → LHeap → Prop) : LSt → Prop := fun st => J16_0 (st.tm 0) (st.tm 1) (st.tm 2) (st.tm 3) (st.tm 4) (st.tm 11) st.g  K
theorem J16_0_ok  (K : LV → LHeap → Prop) (tm : Nat → LV) (g : LHeap) (h : J16_0 (tm 0) (tm 1) (tm 2) (tm 3) (tm 4) (tm 11) g  K) : codeL Try.prog (Ok Try.prog) (nd16 [1]) ⟨tm, g⟩ (en16 K) := by
  refine seq_i (a := nd16 [1, 0]) (b := nd16 [1, 1]) (k' := kj16_1  K) (by kernel_rfl) (fun st h => J16_1_ok  K st.tm st.g h) ?_
  try unfold J16_0 at h
  unfold kj16_1
  generalize @J16_1 = Q16_1 at h ⊢
  refine code2_sound ok_mono _ _ _ ?_
  refine kmp ?_ h
  generalize Ok Try.prog = C
  try unfold en16
  as_aux_lemma => kernel_rfl

noncomputable def F16 (x0 x1 x2 x3 x4 : LV) (g : LHeap) (K : LV → LHeap → Prop) : Prop :=
  oK (newL (.agg [(.int .i64 (0)), .nils]) g) fun t11 g =>
  J16_0 x0 x1 x2 x3 x4 t11 g  K
theorem ok16 {x0 x1 x2 x3 x4 : LV} {g : LHeap} {K : LV → LHeap → Prop} (h : g.Wf → (∀ v ∈ ([x0, x1, x2, x3, x4] : List LV), ∀ b ∈ v.objs, b < g.next) → F16 x0 x1 x2 x3 x4 g K) : Ok Try.prog 16 [x0, x1, x2, x3, x4] g K := by
  refine ok_fw Try.mixed Try.func16 (by kernel_rfl) (by kernel_rfl) (c := nd16 []) (by kernel_rfl) fun wf lt => ?_
  rw [← en16_eq]
  replace h := h wf lt
  generalize hs : startL _ = tm
  replace h : F16 (tm 0) (tm 1) (tm 2) (tm 3) (tm 4) g K := by rw [← hs]; exact h
  refine seq_i (a := nd16 [0]) (b := nd16 [1]) (k' := kj16_0  K) (by kernel_rfl) (fun st h => J16_0_ok  K st.tm st.g h) ?_
  try unfold F16 at h
  unfold kj16_0
  generalize @J16_0 = Q16_0 at h ⊢
  refine code2_sound ok_mono _ _ _ ?_
  refine kmp ?_ h
  generalize Ok Try.prog = C
  try unfold en16
  as_aux_lemma => kernel_rfl

/-! (*parapet/space.Space).Frames (6 slots) -/
noncomputable def en17 (K : LV → LHeap → Prop) : LEx → LSt → Prop := fun e st => match e with
  | .exit _ => False
  | _ => K (st.tm 2) st.g
theorem en17_eq (K : LV → LHeap → Prop) : en17 K = endL Try.prog Try.f17 K := by
  funext e st
  cases e <;> kernel_rfl
noncomputable def nd17 (p : List Nat) : Code := subC p (bodyC Try.prog 17)
noncomputable def F17 (x0 : LV) (g : LHeap) (K : LV → LHeap → Prop) : Prop :=
  Ok Try.prog 36 [x0] g fun t4 g =>
  oK (builtinL Try.prog .len [22] [t4] g) fun t5 g =>
  K t5 g
theorem ok17 {x0 : LV} {g : LHeap} {K : LV → LHeap → Prop} (h : g.Wf → (∀ v ∈ ([x0] : List LV), ∀ b ∈ v.objs, b < g.next) → F17 x0 g K) : Ok Try.prog 17 [x0] g K := by
  refine ok_fw Try.mixed Try.func17 (by kernel_rfl) (by kernel_rfl) (c := nd17 []) (by kernel_rfl) fun wf lt => ?_
  rw [← en17_eq]
  replace h := h wf lt
  generalize hs : startL _ = tm
  replace h : F17 (tm 0) g K := by rw [← hs]; exact h
  try unfold F17 at h
  refine code2_sound ok_mono _ _ _ ?_
  refine kmp ?_ h
  generalize Ok Try.prog = C
  try unfold en17
  as_aux_lemma => kernel_rfl

/-! parapet/space.fits (21 slots) -/
noncomputable def en23 (K : LV → LHeap → Prop) : LEx → LSt → Prop := fun e st => match e with
  | .exit _ => False
  | _ => K (st.tm 4) st.g
theorem en23_eq (K : LV → LHeap → Prop) : en23 K = endL Try.prog Try.f23 K := by
  funext e st
  cases e <;> kernel_rfl
noncomputable def nd23 (p : List Nat) : Code := subC p (bodyC Try.prog 23)
noncomputable def F23 (x0 x1 : LV) (g : LHeap) (K : LV → LHeap → Prop) : Prop :=
  vK (binL Try.prog .geq 3 true x1 (.int .i64 (1))) fun t6 =>
  gd t6 true g (fun K => K x0 g) fun t8 g =>
  gd t6 true g (fun K => vK (binL Try.prog .geq 3 true t8 (.int .i64 (0))) fun v => K v g) fun t9 g =>
  vK (pickL t6 t9 (.bool false)) fun t10 =>
  gd t10 true g (fun K => K x0 g) fun t12 g =>
  gd t10 true g (fun K => vK (binL Try.prog .leq 3 true t12 (.int .i64 (256))) fun v => K v g) fun t13 g =>
  vK (pickL t10 t13 (.bool false)) fun t14 =>
  gd t14 true g (fun K => K x1 g) fun t16 g =>
  gd t14 true g (fun K => K x0 g) fun t17 g =>
  gd t14 true g (fun K => vK (binL Try.prog .sub 3 true (.int .i64 (256)) t17) fun v => K v g) fun t18 g =>
  gd t14 true g (fun K => vK (binL Try.prog .leq 3 false t16 t18) fun v => K v g) fun t19 g =>
  vK (pickL t14 t19 (.bool false)) fun t20 =>
  K t20 g
theorem ok23 {x0 x1 : LV} {g : LHeap} {K : LV → LHeap → Prop} (h : g.Wf → (∀ v ∈ ([x0, x1] : List LV), ∀ b ∈ v.objs, b < g.next) → F23 x0 x1 g K) : Ok Try.prog 23 [x0, x1] g K := by
  refine ok_fw Try.mixed Try.func23 (by kernel_rfl) (by kernel_rfl) (c := nd23 []) (by kernel_rfl) fun wf lt => ?_
  rw [← en23_eq]
  replace h := h wf lt
  generalize hs : startL _ = tm
  replace h : F23 (tm 0) (tm 1) g K := by rw [← hs]; exact h
  try unfold F23 at h
  refine code2_sound ok_mono _ _ _ ?_
  refine kmp ?_ h
  generalize Ok Try.prog = C
  try unfold en23
  as_aux_lemma => kernel_rfl

/-! (*parapet/space.Space).free (17 slots) -/
noncomputable def en24 (K : LV → LHeap → Prop) : LEx → LSt → Prop := fun e st => match e with
  | .exit _ => False
  | _ => K (st.tm 6) st.g
theorem en24_eq (K : LV → LHeap → Prop) : en24 K = endL Try.prog Try.f24 K := by
  funext e st
  cases e <;> kernel_rfl
noncomputable def nd24 (p : List Nat) : Code := subC p (bodyC Try.prog 24)
noncomputable def F24 (x0 x1 x2 : LV) (g : LHeap) (K : LV → LHeap → Prop) : Prop :=
  vK (nilCheckP Try.prog x0) fun t8 =>
  vK (fieldAddrL 3 t8) fun t9 =>
  vK (binL Try.prog .add 3 false x1 x2) fun t13 =>
  vK (cutT Try.prog 64 t9 (some x1) (some t13) none (limL t9 g)) fun t14 =>
  Ok Try.prog 42 [t14, (.bool true)] g fun t15 g =>
  vK (unL .not t15) fun t16 =>
  K t16 g
theorem ok24 {x0 x1 x2 : LV} {g : LHeap} {K : LV → LHeap → Prop} (h : g.Wf → (∀ v ∈ ([x0, x1, x2] : List LV), ∀ b ∈ v.objs, b < g.next) → F24 x0 x1 x2 g K) : Ok Try.prog 24 [x0, x1, x2] g K := by
  refine ok_fw Try.mixed Try.func24 (by kernel_rfl) (by kernel_rfl) (c := nd24 []) (by kernel_rfl) fun wf lt => ?_
  rw [← en24_eq]
  replace h := h wf lt
  generalize hs : startL _ = tm
  replace h : F24 (tm 0) (tm 1) (tm 2) g K := by rw [← hs]; exact h
  try unfold F24 at h
  refine code2_sound ok_mono _ _ _ ?_
  refine kmp ?_ h
  generalize Ok Try.prog = C
  try unfold en24
  as_aux_lemma => kernel_rfl

/-! (*parapet/space.Space).key (11 slots) -/
noncomputable def en27 (K : LV → LHeap → Prop) : LEx → LSt → Prop := fun e st => match e with
  | .exit _ => False
  | _ => retC Try.prog [.cell 4 86] [(4, (st.tm 4))] st.g K
theorem en27_eq (K : LV → LHeap → Prop) : en27 K = endL Try.prog Try.f27 K := by
  funext e st
  cases e <;> kernel_rfl
noncomputable def nd27 (p : List Nat) : Code := subC p (bodyC Try.prog 27)
noncomputable def F27 (x0 x1 : LV) (g : LHeap) (K : LV → LHeap → Prop) : Prop :=
  oK (newL (.agg [(.int .i64 (0)), (.int .i64 (0))]) g) fun t4 g =>
  vK (nilCheckP Try.prog x0) fun t6 =>
  vK (fieldAddrL 1 t6) fun t7 =>
  vK (loadV none t7 g) fun t8 =>
  vK (buildL Try.prog 86 [(0, t8), (1, x1)]) fun t10 =>
  gK (storeV 2 t4 t10 g) fun g =>
  retC Try.prog [.cell 4 86] [(4, t4)] g K
theorem ok27 {x0 x1 : LV} {g : LHeap} {K : LV → LHeap → Prop} (h : g.Wf → (∀ v ∈ ([x0, x1] : List LV), ∀ b ∈ v.objs, b < g.next) → F27 x0 x1 g K) : Ok Try.prog 27 [x0, x1] g K := by
  refine ok_fw Try.mixed Try.func27 (by kernel_rfl) (by kernel_rfl) (c := nd27 []) (by kernel_rfl) fun wf lt => ?_
  rw [← en27_eq]
  replace h := h wf lt
  generalize hs : startL _ = tm
  replace h : F27 (tm 0) (tm 1) g K := by rw [← hs]; exact h
  try unfold F27 at h
  refine code2_sound ok_mono _ _ _ ?_
  refine kmp ?_ h
  generalize Ok Try.prog = C
  try unfold en27
  as_aux_lemma => kernel_rfl

/-! (*parapet/ptab.Table).Get (24 slots) -/
noncomputable def en28 (K : LV → LHeap → Prop) : LEx → LSt → Prop := fun e st => match e with
  | .exit _ => False
  | _ => K (.tuple [(st.tm 4), (st.tm 5)]) st.g
theorem en28_eq (K : LV → LHeap → Prop) : en28 K = endL Try.prog Try.f28 K := by
  funext e st
  cases e <;> kernel_rfl
noncomputable def nd28 (p : List Nat) : Code := subC p (bodyC Try.prog 28)
noncomputable def F28 (x0 x1 : LV) (g : LHeap) (K : LV → LHeap → Prop) : Prop :=
  Ok Try.prog 44 [x0] g fun t8 g =>
  vK (unL .not t8) fun t9 =>
  ifB t9 (
  K (.tuple [(.int .u32 (0)), (.int .i64 (6))]) g) (
  Ok Try.prog 45 [x1] g fun t12 g =>
  vK (unL .not t12) fun t13 =>
  ifB t13 (
  K (.tuple [(.int .u32 (0)), (.int .i64 (1))]) g) (
  vK (nilCheckP Try.prog x0) fun t15 =>
  vK (fieldAddrL 0 t15) fun t16 =>
  vK (loadV none t16 g) fun t17 =>
  vK (nilCheckP Try.prog x0) fun t19 =>
  vK (fieldAddrL 1 t19) fun t20 =>
  vK (loadV none t20 g) fun t21 =>
  ((Ok Try.prog 46 [t17, t21, x1] g fun t23 g =>
  
  K (.tuple [t23, (.int .i64 (0))]) g) ∧ True)))
theorem ok28 {x0 x1 : LV} {g : LHeap} {K : LV → LHeap → Prop} (h : g.Wf → (∀ v ∈ ([x0, x1] : List LV), ∀ b ∈ v.objs, b < g.next) → F28 x0 x1 g K) : Ok Try.prog 28 [x0, x1] g K := by
  refine ok_fw Try.mixed Try.func28 (by kernel_rfl) (by kernel_rfl) (c := nd28 []) (by kernel_rfl) fun wf lt => ?_
  rw [← en28_eq]
  replace h := h wf lt
  generalize hs : startL _ = tm
  replace h : F28 (tm 0) (tm 1) g K := by rw [← hs]; exact h
  try unfold F28 at h
  refine code2_sound ok_mono _ _ _ ?_
  refine kmp ?_ h
  generalize Ok Try.prog = C
  try unfold en28
  as_aux_lemma => kernel_rfl

/-! parapet/ptab.Flags (6 slots) -/
noncomputable def en30 (K : LV → LHeap → Prop) : LEx → LSt → Prop := fun e st => match e with
  | .exit _ => False
  | _ => K (st.tm 2) st.g
theorem en30_eq (K : LV → LHeap → Prop) : en30 K = endL Try.prog Try.f30 K := by
  funext e st
  cases e <;> kernel_rfl
noncomputable def nd30 (p : List Nat) : Code := subC p (bodyC Try.prog 30)
noncomputable def F30 (x0 : LV) (g : LHeap) (K : LV → LHeap → Prop) : Prop :=
  vK (binL Try.prog .and 53 true x0 (.int .u32 (255))) fun t4 =>
  oK (convL Try.prog 53 3 t4 g) fun t5 g =>
  K t5 g
theorem ok30 {x0 : LV} {g : LHeap} {K : LV → LHeap → Prop} (h : g.Wf → (∀ v ∈ ([x0] : List LV), ∀ b ∈ v.objs, b < g.next) → F30 x0 g K) : Ok Try.prog 30 [x0] g K := by
  refine ok_fw Try.mixed Try.func30 (by kernel_rfl) (by kernel_rfl) (c := nd30 []) (by kernel_rfl) fun wf lt => ?_
  rw [← en30_eq]
  replace h := h wf lt
  generalize hs : startL _ = tm
  replace h : F30 (tm 0) g K := by rw [← hs]; exact h
  try unfold F30 at h
  refine code2_sound ok_mono _ _ _ ?_
  refine kmp ?_ h
  generalize Ok Try.prog = C
  try unfold en30
  as_aux_lemma => kernel_rfl

/-! parapet/ptab.Frame (6 slots) -/
noncomputable def en31 (K : LV → LHeap → Prop) : LEx → LSt → Prop := fun e st => match e with
  | .exit _ => False
  | _ => K (st.tm 2) st.g
theorem en31_eq (K : LV → LHeap → Prop) : en31 K = endL Try.prog Try.f31 K := by
  funext e st
  cases e <;> kernel_rfl
noncomputable def nd31 (p : List Nat) : Code := subC p (bodyC Try.prog 31)
noncomputable def F31 (x0 : LV) (g : LHeap) (K : LV → LHeap → Prop) : Prop :=
  vK (binL Try.prog .shr 53 true x0 (.int .u64 (8))) fun t4 =>
  oK (convL Try.prog 53 3 t4 g) fun t5 g =>
  K t5 g
theorem ok31 {x0 : LV} {g : LHeap} {K : LV → LHeap → Prop} (h : g.Wf → (∀ v ∈ ([x0] : List LV), ∀ b ∈ v.objs, b < g.next) → F31 x0 g K) : Ok Try.prog 31 [x0] g K := by
  refine ok_fw Try.mixed Try.func31 (by kernel_rfl) (by kernel_rfl) (c := nd31 []) (by kernel_rfl) fun wf lt => ?_
  rw [← en31_eq]
  replace h := h wf lt
  generalize hs : startL _ = tm
  replace h : F31 (tm 0) g K := by rw [← hs]; exact h
  try unfold F31 at h
  refine code2_sound ok_mono _ _ _ ?_
  refine kmp ?_ h
  generalize Ok Try.prog = C
  try unfold en31
  as_aux_lemma => kernel_rfl

/-! (*parapet/space.Space).Has (23 slots) -/
noncomputable def en32 (K : LV → LHeap → Prop) : LEx → LSt → Prop := fun e st => match e with
  | .exit _ => False
  | _ => K (st.tm 4) st.g
theorem en32_eq (K : LV → LHeap → Prop) : en32 K = endL Try.prog Try.f32 K := by
  funext e st
  cases e <;> kernel_rfl
noncomputable def nd32 (p : List Nat) : Code := subC p (bodyC Try.prog 32)
noncomputable def F32 (x0 x1 : LV) (g : LHeap) (K : LV → LHeap → Prop) : Prop :=
  Ok Try.prog 20 [x0] g fun t6 g =>
  gd t6 true g (fun K => K x1 g) fun t8 g =>
  gd t6 true g (fun K => vK (binL Try.prog .geq 3 true t8 (.int .i64 (0))) fun v => K v g) fun t9 g =>
  vK (pickL t6 t9 (.bool false)) fun t10 =>
  gd t10 true g (fun K => K x1 g) fun t12 g =>
  gd t10 true g (fun K => vK (binL Try.prog .lss 3 true t12 (.int .i64 (256))) fun v => K v g) fun t13 g =>
  vK (pickL t10 t13 (.bool false)) fun t14 =>
  gd t14 true g (fun K => K x0 g) fun t16 g =>
  gd t14 true g (fun K => K x1 g) fun t17 g =>
  gd t14 true g (fun K => vK (nilCheckP Try.prog t16) fun v => K v g) fun t18 g =>
  gd t14 true g (fun K => vK (fieldAddrL 3 t18) fun v => K v g) fun t19 g =>
  gd t14 true g (fun K => vK (ixAddrL (some 256) 1 t19 t17) fun v => K v g) fun t20 g =>
  gd t14 true g (fun K => vK (loadV none t20 g) fun v => K v g) fun t21 g =>
  vK (pickL t14 t21 (.bool false)) fun t22 =>
  K t22 g
theorem ok32 {x0 x1 : LV} {g : LHeap} {K : LV → LHeap → Prop} (h : g.Wf → (∀ v ∈ ([x0, x1] : List LV), ∀ b ∈ v.objs, b < g.next) → F32 x0 x1 g K) : Ok Try.prog 32 [x0, x1] g K := by
  refine ok_fw Try.mixed Try.func32 (by kernel_rfl) (by kernel_rfl) (c := nd32 []) (by kernel_rfl) fun wf lt => ?_
  rw [← en32_eq]
  replace h := h wf lt
  generalize hs : startL _ = tm
  replace h : F32 (tm 0) (tm 1) g K := by rw [← hs]; exact h
  try unfold F32 at h
  refine code2_sound ok_mono _ _ _ ?_
  refine kmp ?_ h
  generalize Ok Try.prog = C
  try unfold en32
  as_aux_lemma => kernel_rfl

/-! (*parapet/space.Space).give (69 slots) -/
noncomputable def en33 (K : LV → LHeap → Prop) : LEx → LSt → Prop := fun e st => match e with
  | .exit _ => False
  | _ => K (.tuple [(st.tm 8), (st.tm 9)]) st.g
theorem en33_eq (K : LV → LHeap → Prop) : en33 K = endL Try.prog Try.f33 K := by
  funext e st
  cases e <;> kernel_rfl
noncomputable def nd33 (p : List Nat) : Code := subC p (bodyC Try.prog 33)
noncomputable def J33_4 (x0 x2 x3 x10 x12 : LV) (g : LHeap)  (K : LV → LHeap → Prop) : Prop :=
  vK (nilCheckP Try.prog x0) fun t58 =>
  vK (fieldAddrL 2 t58) fun t59 =>
  vK (loadV none t59 g) fun t60 =>
  vK (binL Try.prog .or 3 true (.int .i64 (1)) x3) fun t64 =>
  ((Ok Try.prog 51 [x10, t64] g fun t65 g =>
  ((loadV none t59 g) = some t60 ∧ 
  ((Ok Try.prog 50 [t60, x2, t65, x12] g fun t67 g =>
  
  K (.tuple [x10, (.bool true)]) g) ∧ True))) ∧ True)
abbrev kj33_4  (K : LV → LHeap → Prop) : LSt → Prop := fun st => J33_4 (st.tm 0) (st.tm 2) (st.tm 3) (st.tm 10) (st.tm 12) st.g  K
theorem J33_4_ok  (K : LV → LHeap → Prop) (tm : Nat → LV) (g : LHeap) (h : J33_4 (tm 0) (tm 2) (tm 3) (tm 10) (tm 12) g  K) : codeL Try.prog (Ok Try.prog) (nd33 [1, 1, 1, 1, 1]) ⟨tm, g⟩ (en33 K) := by
  try unfold J33_4 at h
  refine code2_sound ok_mono _ _ _ ?_
  refine kmp ?_ h
  generalize Ok Try.prog = C
  try unfold en33
  as_aux_lemma => kernel_rfl

noncomputable def J33_3 (x0 x1 x2 x3 x10 x12 : LV) (g : LHeap)  (K : LV → LHeap → Prop) : Prop :=
  vK (nilCheckP Try.prog x0) fun t28 =>
  vK (fieldAddrL 2 t28) fun t29 =>
  vK (loadV none t29 g) fun t30 =>
  Ok Try.prog 48 [t30, x2] g fun t32 g =>
  ifB t32 (
  vK (nilCheckP Try.prog x0) fun t35 =>
  vK (fieldAddrL 0 t35) fun t36 =>
  vK (loadV none t36 g) fun t37 =>
  vK (nilCheckP Try.prog t37) fun t38 =>
  vK (fieldAddrL 1 t38) fun t39 =>
  vK (loadV none t39 g) fun t40 =>
  Ok Try.prog 18 [t40, x1] g fun t42 g =>
  vK (extractL t42 0) fun t43 =>
  vK (extractL t42 1) fun t44 =>
  vK (binL Try.prog .neq 27 true t44 (.int .i64 (0))) fun t46 =>
  ifB t46 (
  vK (nilCheckP Try.prog x0) fun t48 =>
  vK (fieldAddrL 0 t48) fun t49 =>
  vK (loadV none t49 g) fun t50 =>
  vK (nilCheckP Try.prog t50) fun t51 =>
  vK (fieldAddrL 1 t51) fun t52 =>
  vK (loadV none t52 g) fun t53 =>
  Ok Try.prog 49 [t53, x1, x10] g fun t56 g =>
  K (.tuple [(.int .i64 (0)), (.bool false)]) g) (
  J33_4 x0 x2 x3 x10 t43 g  K)) (
  J33_4 x0 x2 x3 x10 x12 g  K)
abbrev kj33_3  (K : LV → LHeap → Prop) : LSt → Prop := fun st => J33_3 (st.tm 0) (st.tm 1) (st.tm 2) (st.tm 3) (st.tm 10) (st.tm 12) st.g  K
theorem J33_3_ok  (K : LV → LHeap → Prop) (tm : Nat → LV) (g : LHeap) (h : J33_3 (tm 0) (tm 1) (tm 2) (tm 3) (tm 10) (tm 12) g  K) : codeL Try.prog (Ok Try.prog) (nd33 [1, 1, 1, 1]) ⟨tm, g⟩ (en33 K) := by
  refine seq_i (a := nd33 [1, 1, 1, 1, 0]) (b := nd33 [1, 1, 1, 1, 1]) (k' := kj33_4  K) (by kernel_rfl) (fun st h => J33_4_ok  K st.tm st.g h) ?_
  try unfold J33_3 at h
  unfold kj33_4
  generalize @J33_4 = Q33_4 at h ⊢
  refine code2_sound ok_mono _ _ _ ?_
  refine kmp ?_ h
  generalize Ok Try.prog = C
  try unfold en33
  as_aux_lemma => kernel_rfl

noncomputable def J33_2 (x0 x1 x2 x3 x10 : LV) (g : LHeap)  (K : LV → LHeap → Prop) : Prop :=
  J33_3 x0 x1 x2 x3 x10 (.int .i64 (-1)) g  K
abbrev kj33_2  (K : LV → LHeap → Prop) : LSt → Prop := fun st => J33_2 (st.tm 0) (st.tm 1) (st.tm 2) (st.tm 3) (st.tm 10) st.g  K
theorem J33_2_ok  (K : LV → LHeap → Prop) (tm : Nat → LV) (g : LHeap) (h : J33_2 (tm 0) (tm 1) (tm 2) (tm 3) (tm 10) g  K) : codeL Try.prog (Ok Try.prog) (nd33 [1, 1, 1]) ⟨tm, g⟩ (en33 K) := by
  refine seq_i (a := nd33 [1, 1, 1, 0]) (b := nd33 [1, 1, 1, 1]) (k' := kj33_3  K) (by kernel_rfl) (fun st h => J33_3_ok  K st.tm st.g h) ?_
  try unfold J33_2 at h
  unfold kj33_3
  generalize @J33_3 = Q33_3 at h ⊢
  refine code2_sound ok_mono _ _ _ ?_
  refine kmp ?_ h
  generalize Ok Try.prog = C
  try unfold en33
  as_aux_lemma => kernel_rfl

noncomputable def J33_1 (x0 x1 x2 x3 x10 x11 : LV) (g : LHeap)  (K : LV → LHeap → Prop) : Prop :=
  vK (binL Try.prog .neq 27 true x11 (.int .i64 (0))) fun t26 =>
  ifB t26 (
  K (.tuple [(.int .i64 (0)), (.bool false)]) g) (
  J33_2 x0 x1 x2 x3 x10 g  K)
abbrev kj33_1  (K : LV → LHeap → Prop) : LSt → Prop := fun st => J33_1 (st.tm 0) (st.tm 1) (st.tm 2) (st.tm 3) (st.tm 10) (st.tm 11) st.g  K
theorem J33_1_ok  (K : LV → LHeap → Prop) (tm : Nat → LV) (g : LHeap) (h : J33_1 (tm 0) (tm 1) (tm 2) (tm 3) (tm 10) (tm 11) g  K) : codeL Try.prog (Ok Try.prog) (nd33 [1, 1]) ⟨tm, g⟩ (en33 K) := by
  refine seq_i (a := nd33 [1, 1, 0]) (b := nd33 [1, 1, 1]) (k' := kj33_2  K) (by kernel_rfl) (fun st h => J33_2_ok  K st.tm st.g h) ?_
  try unfold J33_1 at h
  unfold kj33_2
  generalize @J33_2 = Q33_2 at h ⊢
  refine code2_sound ok_mono _ _ _ ?_
  refine kmp ?_ h
  generalize Ok Try.prog = C
  try unfold en33
  as_aux_lemma => kernel_rfl

noncomputable def J33_0 (x0 x1 x2 x3 : LV) (g : LHeap)  (K : LV → LHeap → Prop) : Prop :=
  vK (nilCheckP Try.prog x0) fun t15 =>
  vK (fieldAddrL 0 t15) fun t16 =>
  vK (loadV none t16 g) fun t17 =>
  vK (nilCheckP Try.prog t17) fun t18 =>
  vK (fieldAddrL 1 t18) fun t19 =>
  vK (loadV none t19 g) fun t20 =>
  Ok Try.prog 18 [t20, x1] g fun t22 g =>
  vK (extractL t22 0) fun t23 =>
  vK (extractL t22 1) fun t24 =>
  J33_1 x0 x1 x2 x3 t23 t24 g  K
abbrev kj33_0  (K : LV → LHeap → Prop) : LSt → Prop := fun st => J33_0 (st.tm 0) (st.tm 1) (st.tm 2) (st.tm 3) st.g  K
theorem J33_0_ok  (K : LV → LHeap → Prop) (tm : Nat → LV) (g : LHeap) (h : J33_0 (tm 0) (tm 1) (tm 2) (tm 3) g  K) : codeL Try.prog (Ok Try.prog) (nd33 [1]) ⟨tm, g⟩ (en33 K) := by
  refine seq_i (a := nd33 [1, 0]) (b := nd33 [1, 1]) (k' := kj33_1  K) (by kernel_rfl) (fun st h => J33_1_ok  K st.tm st.g h) ?_
  try unfold J33_0 at h
  unfold kj33_1
  generalize @J33_1 = Q33_1 at h ⊢
  refine code2_sound ok_mono _ _ _ ?_
  refine kmp ?_ h
  generalize Ok Try.prog = C
  try unfold en33
  as_aux_lemma => kernel_rfl

noncomputable def F33 (x0 x1 x2 x3 : LV) (g : LHeap) (K : LV → LHeap → Prop) : Prop :=
  J33_0 x0 x1 x2 x3 g  K
theorem ok33 {x0 x1 x2 x3 : LV} {g : LHeap} {K : LV → LHeap → Prop} (h : g.Wf → (∀ v ∈ ([x0, x1, x2, x3] : List LV), ∀ b ∈ v.objs, b < g.next) → F33 x0 x1 x2 x3 g K) : Ok Try.prog 33 [x0, x1, x2, x3] g K := by
  refine ok_fw Try.mixed Try.func33 (by kernel_rfl) (by kernel_rfl) (c := nd33 []) (by kernel_rfl) fun wf lt => ?_
  rw [← en33_eq]
  replace h := h wf lt
  generalize hs : startL _ = tm
  replace h : F33 (tm 0) (tm 1) (tm 2) (tm 3) g K := by rw [← hs]; exact h
  refine seq_i (a := nd33 [0]) (b := nd33 [1]) (k' := kj33_0  K) (by kernel_rfl) (fun st h => J33_0_ok  K st.tm st.g h) ?_
  try unfold F33 at h
  unfold kj33_0
  generalize @J33_0 = Q33_0 at h ⊢
  refine code2_sound ok_mono _ _ _ ?_
  refine kmp ?_ h
  generalize Ok Try.prog = C
  try unfold en33
  as_aux_lemma => kernel_rfl

/-! (*parapet/space.Space).apart (79 slots) -/
noncomputable def en34 (K : LV → LHeap → Prop) : LEx → LSt → Prop := fun e st => match e with
  | .exit _ => False
  | _ => retC Try.prog [.tmp 10, .cell 11 55] [(10, (st.tm 10)), (11, (st.tm 11))] st.g K
theorem en34_eq (K : LV → LHeap → Prop) : en34 K = endL Try.prog Try.f34 K := by
  funext e st
  cases e <;> kernel_rfl
noncomputable def nd34 (p : List Nat) : Code := subC p (bodyC Try.prog 34)
noncomputable def F34 (x0 x1 x2 x3 x4 : LV) (g : LHeap) (K : LV → LHeap → Prop) : Prop :=
  oK (newL (.agg [(.int .i64 (0)), .nils]) g) fun t11 g =>
  Ok Try.prog 31 [x3] g fun t16 g =>
  vK (nilCheckP Try.prog x0) fun t18 =>
  vK (fieldAddrL 0 t18) fun t19 =>
  vK (loadV none t19 g) fun t20 =>
  vK (nilCheckP Try.prog t20) fun t21 =>
  vK (fieldAddrL 1 t21) fun t22 =>
  vK (loadV none t22 g) fun t23 =>
  Ok Try.prog 52 [t23, t16] g fun t25 g =>
  vK (binL Try.prog .eql 3 true t25 (.int .i64 (1))) fun t26 =>
  ifB t26 (
  vK (nilCheckP Try.prog x0) fun t28 =>
  vK (fieldAddrL 2 t28) fun t29 =>
  vK (loadV none t29 g) fun t30 =>
  ((Ok Try.prog 51 [t16, (.int .i64 (3))] g fun t33 g =>
  ((loadV none t29 g) = some t30 ∧ 
  ((Ok Try.prog 50 [t30, x2, t33, (.int .i64 (-1))] g fun t34 g =>
  
  Ok Try.prog 35 [x0, x1] g fun t37 g =>
  vK (extractL t37 0) fun t38 =>
  vK (extractL t37 1) fun t39 =>
  gK (storeV 2 t11 t39 g) fun g =>
  retC Try.prog [.tmp 10, .cell 11 55] [(10, t38), (11, t11)] g K) ∧ True))) ∧ True)) (
  Ok Try.prog 33 [x0, x1, x2, (.int .i64 (4))] g fun t44 g =>
  vK (extractL t44 0) fun t45 =>
  vK (extractL t44 1) fun t46 =>
  vK (unL .not t46) fun t48 =>
  ifB t48 (
  vK (buildL Try.prog 55 []) fun t49 =>
  gK (storeV 2 t11 t49 g) fun g =>
  retC Try.prog [.tmp 10, .cell 11 55] [(10, (.int .i64 (3))), (11, t11)] g K) (
  vK (nilCheckP Try.prog x0) fun t51 =>
  vK (fieldAddrL 0 t51) fun t52 =>
  vK (loadV none t52 g) fun t53 =>
  vK (nilCheckP Try.prog t53) fun t54 =>
  vK (fieldAddrL 0 t54) fun t55 =>
  vK (loadV none t55 g) fun t56 =>
  Ok Try.prog 53 [t56, t45, t16] g fun t59 g =>
  vK (nilCheckP Try.prog x0) fun t61 =>
  vK (fieldAddrL 0 t61) fun t62 =>
  vK (loadV none t62 g) fun t63 =>
  vK (nilCheckP Try.prog t63) fun t64 =>
  vK (fieldAddrL 2 t64) fun t65 =>
  vK (loadV none t65 g) fun t66 =>
  vK (nilCheckP Try.prog x0) fun t69 =>
  vK (fieldAddrL 1 t69) fun t70 =>
  vK (loadV none t70 g) fun t71 =>
  ((Ok Try.prog 54 [t66, x1, t71] g fun t72 g =>
  
  Ok Try.prog 55 [x0, x4] g fun t75 g =>
  oK (buildSliceL Try.prog 22 1 [(0, t16)] g) fun t77 g =>
  vK (buildL Try.prog 55 [(0, t75), (1, t77)]) fun t78 =>
  gK (storeV 2 t11 t78 g) fun g =>
  retC Try.prog [.tmp 10, .cell 11 55] [(10, (.int .i64 (4))), (11, t11)] g K) ∧ True)))
theorem ok34 {x0 x1 x2 x3 x4 : LV} {g : LHeap} {K : LV → LHeap → Prop} (h : g.Wf → (∀ v ∈ ([x0, x1, x2, x3, x4] : List LV), ∀ b ∈ v.objs, b < g.next) → F34 x0 x1 x2 x3 x4 g K) : Ok Try.prog 34 [x0, x1, x2, x3, x4] g K := by
  refine ok_fw Try.mixed Try.func34 (by kernel_rfl) (by kernel_rfl) (c := nd34 []) (by kernel_rfl) fun wf lt => ?_
  rw [← en34_eq]
  replace h := h wf lt
  generalize hs : startL _ = tm
  replace h : F34 (tm 0) (tm 1) (tm 2) (tm 3) (tm 4) g K := by rw [← hs]; exact h
  try unfold F34 at h
  refine code3_sound ok_mono (pl := [(9, (.lt 0 false (.lt 1 false (.lt 2 false (.lt 3 false (.lt 4 false (.lt 5 false (.lt 6 false (.lt 7 false (.lt 8 false (.lt 9 false (.lt 10 false (.lt 11 false (.hv 12 .nil .nil))))))))))))))]) _ _ _ (by kernel_rfl) ?_
  refine kmp ?_ h
  generalize Ok Try.prog = C
  try unfold en34
  as_aux_lemma => kernel_rfl

/-! (*parapet/space.Space).done (20 slots) -/
noncomputable def en35 (K : LV → LHeap → Prop) : LEx → LSt → Prop := fun e st => match e with
  | .exit _ => False
  | _ => retC Try.prog [.tmp 4, .cell 5 55] [(4, (st.tm 4)), (5, (st.tm 5))] st.g K
theorem en35_eq (K : LV → LHeap → Prop) : en35 K = endL Try.prog Try.f35 K := by
  funext e st
  cases e <;> kernel_rfl
noncomputable def nd35 (p : List Nat) : Code := subC p (bodyC Try.prog 35)
noncomputable def F35 (x0 x1 : LV) (g : LHeap) (K : LV → LHeap → Prop) : Prop :=
  oK (newL (.agg [(.int .i64 (0)), .nils]) g) fun t5 g =>
  vK (nilCheckP Try.prog x0) fun t7 =>
  vK (fieldAddrL 0 t7) fun t8 =>
  vK (loadV none t8 g) fun t9 =>
  vK (nilCheckP Try.prog t9) fun t10 =>
  vK (fieldAddrL 2 t10) fun t11 =>
  vK (loadV none t11 g) fun t12 =>
  vK (nilCheckP Try.prog x0) fun t15 =>
  vK (fieldAddrL 1 t15) fun t16 =>
  vK (loadV none t16 g) fun t17 =>
  ((Ok Try.prog 54 [t12, x1, t17] g fun t18 g =>
  
  vK (buildL Try.prog 55 []) fun t19 =>
  gK (storeV 2 t5 t19 g) fun g =>
  retC Try.prog [.tmp 4, .cell 5 55] [(4, (.int .i64 (1))), (5, t5)] g K) ∧ True)
theorem ok35 {x0 x1 : LV} {g : LHeap} {K : LV → LHeap → Prop} (h : g.Wf → (∀ v ∈ ([x0, x1] : List LV), ∀ b ∈ v.objs, b < g.next) → F35 x0 x1 g K) : Ok Try.prog 35 [x0, x1] g K := by
  refine ok_fw Try.mixed Try.func35 (by kernel_rfl) (by kernel_rfl) (c := nd35 []) (by kernel_rfl) fun wf lt => ?_
  rw [← en35_eq]
  replace h := h wf lt
  generalize hs : startL _ = tm
  replace h : F35 (tm 0) (tm 1) g K := by rw [← hs]; exact h
  try unfold F35 at h
  refine code3_sound ok_mono (pl := [(1, (.lt 0 false (.lt 1 false (.lt 2 false (.lt 3 false (.lt 4 false (.lt 5 false (.lt 6 false (.lt 7 false (.lt 8 false (.lt 9 false (.lt 10 false (.lt 11 false (.hv 12 .nil .nil))))))))))))))]) _ _ _ (by kernel_rfl) ?_
  refine kmp ?_ h
  generalize Ok Try.prog = C
  try unfold en35
  as_aux_lemma => kernel_rfl

/-! (*parapet/space.Space).all (42 slots) -/
noncomputable def en36 (K : LV → LHeap → Prop) : LEx → LSt → Prop := fun e st => match e with
  | .exit _ => False
  | _ => K (st.tm 2) st.g
theorem en36_eq (K : LV → LHeap → Prop) : en36 K = endL Try.prog Try.f36 K := by
  funext e st
  cases e <;> kernel_rfl
noncomputable def nd36 (p : List Nat) : Code := subC p (bodyC Try.prog 36)
noncomputable def J36_3 (x0 x3 : LV) (g : LHeap)  (K : LV → LHeap → Prop) : Prop :=
  vK (loadV none x3 g) fun t28 =>
  vK (nilCheckP Try.prog x0) fun t30 =>
  vK (fieldAddrL 2 t30) fun t31 =>
  vK (loadV none t31 g) fun t32 =>
  vK (nilCheckP Try.prog x0) fun t36 =>
  vK (fieldAddrL 2 t36) fun t37 =>
  vK (loadV none t37 g) fun t38 =>
  ((Ok Try.prog 57 [t32] g fun t33 g =>
  ((loadV none t37 g) = some t38 ∧ ((loadV none x3 g) = some t28 ∧ 
  ((oK (builtinL Try.prog .append [22, 22] [t28, t33] g) fun t34 g =>
  ((loadV none t37 g) = some t38 ∧ 
  ((Ok Try.prog 58 [t38] g fun t39 g =>
  
  ((oK (buildSliceL Try.prog 22 1 [(0, t39)] g) fun t40 g =>
  
  ((oK (builtinL Try.prog .append [22, 22] [t34, t40] g) fun t41 g =>
  
  K t41 g) ∧ True)) ∧ True)) ∧ True))) ∧ True)))) ∧ True)
abbrev kj36_3  (K : LV → LHeap → Prop) : LSt → Prop := fun st => J36_3 (st.tm 0) (st.tm 3) st.g  K
theorem J36_3_ok  (K : LV → LHeap → Prop) (tm : Nat → LV) (g : LHeap) (h : J36_3 (tm 0) (tm 3) g  K) : codeL Try.prog (Ok Try.prog) (nd36 [1, 1, 1, 1]) ⟨tm, g⟩ (en36 K) := by
  try unfold J36_3 at h
  refine code3_sound ok_mono (pl := [(7, (.lt 0 true (.lt 1 false (.lt 2 false (.lt 3 false (.lt 4 false (.lt 7 false (.lt 8 false (.lt 9 false (.lt 10 true (.hv 5 (.hv 6 (.hv 11 (.hv 12 (.hv 13 (.lt 14 false .nil) .nil) .nil) .nil) .nil) .nil)))))))))))]) _ _ _ (by kernel_rfl) ?_
  refine kmp ?_ h
  generalize Ok Try.prog = C
  try unfold en36
  as_aux_lemma => kernel_rfl

noncomputable def B36_5 (x3 x5 : LV) (g : LHeap) (K : LV → LHeap → Prop) : Prop :=
  vK (loadV none x3 g) fun t23 =>
  ((Ok Try.prog 31 [x5] g fun t25 g =>
  ((loadV none x3 g) = some t23 ∧ 
  ((oK (buildSliceL Try.prog 22 1 [(0, t25)] g) fun t26 g =>
  ((loadV none x3 g) = some t23 ∧ 
  ((oK (builtinL Try.prog .append [22, 22] [t23, t26] g) fun t27 g =>
  
  ((gK (storeV 1 x3 t27 g) fun g =>
  
  K (.bool true) g) ∧ True)) ∧ True))) ∧ True))) ∧ True)
theorem B36_5_ok (K : LV → LHeap → Prop) (tm : Nat → LV) (g : LHeap) (h : B36_5 (tm 3) (tm 5) g K) : codeL Try.prog (Ok Try.prog) (nd36 [1, 1, 1, 0, 1, 0, 1]) ⟨tm, g⟩ (rkE K) := by
  try unfold B36_5 at h
  refine code2_sound ok_mono _ _ _ ?_
  refine kmp ?_ h
  generalize Ok Try.prog = C
  try unfold en36
  as_aux_lemma => kernel_rfl

noncomputable def R36_5 (x3 x21 x22 : LV) (rl : Nat) (g : LHeap) (K : LV → LHeap → Prop) : Prop :=
  beginP rl g fun g =>
  B36_5 x3 x22 g (endK rl K)
theorem R36_5_ok (K : LV → LHeap → Prop) (tm : Nat → LV) (rl : Nat) (y0 y1 : LV) (g : LHeap) (h : R36_5 (tm 3) y0 y1 rl g K) : codeL Try.prog (Ok Try.prog) (nd36 [1, 1, 1, 0, 1, 0, 0]) ⟨putAll tm [(21, y0), (22, y1)], g⟩ (roundB Try.prog (Ok Try.prog) rl (nd36 [1, 1, 1, 0, 1, 0, 1]) K) := by
  refine round_glue (fun st => B36_5 (st.tm 3) (st.tm 5) st.g (endK rl K)) (fun st h => B36_5_ok (endK rl K) st.tm st.g h) ?_
  try unfold R36_5 at h
  refine code2_sound ok_mono _ _ _ ?_
  refine kmp ?_ h
  generalize Ok Try.prog = C
  try unfold en36
  as_aux_lemma => kernel_rfl

noncomputable def J36_4 (x0 x3 x20 : LV) (g : LHeap)  (K : LV → LHeap → Prop) : Prop :=
  rangeP Try.prog x20 g (fun rl zs g K => ∃ y0, ∃ y1, zs = [y0, y1] ∧ R36_5 x3 y0 y1 rl g K) (fun g => J36_3 x0 x3 g  K) (fun id g => False) (fun g => False)
abbrev kj36_4  (K : LV → LHeap → Prop) : LSt → Prop := fun st => J36_4 (st.tm 0) (st.tm 3) (st.tm 20) st.g  K
theorem J36_4_ok  (K : LV → LHeap → Prop) (tm : Nat → LV) (g : LHeap) (h : J36_4 (tm 0) (tm 3) (tm 20) g  K) : codeL Try.prog (Ok Try.prog) (nd36 [1, 1, 1, 0, 1]) ⟨tm, g⟩ (thenL (kj36_3  K) (en36 K)) := by
  refine block_i (b := nd36 [1, 1, 1, 0, 1, 0]) (i := 0) (by kernel_rfl) ?_
  exact range_glue Try.mixed (f := .tmp 20) (ps := #[21, 22]) (asg := nd36 [1, 1, 1, 0, 1, 0, 0]) (body := nd36 [1, 1, 1, 0, 1, 0, 1]) (by kernel_rfl) (fun tm : Nat → LV => tm 3) (fun a => (fun rl zs g K => ∃ y0, ∃ y1, zs = [y0, y1] ∧ R36_5 a y0 y1 rl g K)) (fun tm rl zs g K h => by
    obtain ⟨y0, y1, rfl, h⟩ := h
    exact ⟨rfl, R36_5_ok K tm rl y0 y1 g h⟩) tm g (fun _ h => h) (fun _ _ h => h.elim) (fun _ h => h.elim) h

noncomputable def J36_2 (x0 x3 : LV) (g : LHeap)  (K : LV → LHeap → Prop) : Prop :=
  vK (nilCheckP Try.prog x0) fun t17 =>
  vK (fieldAddrL 2 t17) fun t18 =>
  vK (loadV none t18 g) fun t19 =>
  Ok Try.prog 56 [t19] g fun t20 g =>
  J36_4 x0 x3 t20 g  K
abbrev kj36_2  (K : LV → LHeap → Prop) : LSt → Prop := fun st => J36_2 (st.tm 0) (st.tm 3) st.g  K
theorem J36_2_ok  (K : LV → LHeap → Prop) (tm : Nat → LV) (g : LHeap) (h : J36_2 (tm 0) (tm 3) g  K) : codeL Try.prog (Ok Try.prog) (nd36 [1, 1, 1]) ⟨tm, g⟩ (en36 K) := by
  refine seq_i (a := nd36 [1, 1, 1, 0]) (b := nd36 [1, 1, 1, 1]) (k' := kj36_3  K) (by kernel_rfl) (fun st h => J36_3_ok  K st.tm st.g h) ?_
  refine seq_i (a := nd36 [1, 1, 1, 0, 0]) (b := nd36 [1, 1, 1, 0, 1]) (k' := kj36_4  K) (by kernel_rfl) (fun st h => J36_4_ok  K st.tm st.g h) ?_
  try unfold J36_2 at h
  unfold kj36_4
  generalize @J36_4 = Q36_4 at h ⊢
  unfold kj36_3
  generalize @J36_3 = Q36_3 at h ⊢
  refine code2_sound ok_mono _ _ _ ?_
  refine kmp ?_ h
  generalize Ok Try.prog = C
  try unfold en36
  as_aux_lemma => kernel_rfl

noncomputable def J36_1 (x0 : LV) (g : LHeap)  (K : LV → LHeap → Prop) : Prop :=
  oK (newL .nils g) fun t3 g =>
  J36_2 x0 t3 g  K
abbrev kj36_1  (K : LV → LHeap → Prop) : LSt → Prop := fun st => J36_1 (st.tm 0) st.g  K
theorem J36_1_ok  (K : LV → LHeap → Prop) (tm : Nat → LV) (g : LHeap) (h : J36_1 (tm 0) g  K) : codeL Try.prog (Ok Try.prog) (nd36 [1, 1]) ⟨tm, g⟩ (en36 K) := by
  refine seq_i (a := nd36 [1, 1, 0]) (b := nd36 [1, 1, 1]) (k' := kj36_2  K) (by kernel_rfl) (fun st h => J36_2_ok  K st.tm st.g h) ?_
  try unfold J36_1 at h
  unfold kj36_2
  generalize @J36_2 = Q36_2 at h ⊢
  refine code2_sound ok_mono _ _ _ ?_
  refine kmp ?_ h
  generalize Ok Try.prog = C
  try unfold en36
  as_aux_lemma => kernel_rfl

noncomputable def J36_0 (x0 : LV) (g : LHeap)  (K : LV → LHeap → Prop) : Prop :=
  Ok Try.prog 20 [x0] g fun t7 g =>
  vK (unL .not t7) fun t8 =>
  gd t8 false g (fun K => K x0 g) fun t10 g =>
  gd t8 false g (fun K => vK (nilCheckP Try.prog t10) fun v => K v g) fun t11 g =>
  gd t8 false g (fun K => vK (fieldAddrL 2 t11) fun v => K v g) fun t12 g =>
  gd t8 false g (fun K => vK (loadV none t12 g) fun v => K v g) fun t13 g =>
  gd t8 false g (fun K => vK (binL Try.prog .eql 61 true t13 .nilp) fun v => K v g) fun t14 g =>
  vK (pickL t8 (.bool true) t14) fun t15 =>
  ifB t15 (
  K .nils g) (
  J36_1 x0 g  K)
abbrev kj36_0  (K : LV → LHeap → Prop) : LSt → Prop := fun st => J36_0 (st.tm 0) st.g  K
theorem J36_0_ok  (K : LV → LHeap → Prop) (tm : Nat → LV) (g : LHeap) (h : J36_0 (tm 0) g  K) : codeL Try.prog (Ok Try.prog) (nd36 [1]) ⟨tm, g⟩ (en36 K) := by
  refine seq_i (a := nd36 [1, 0]) (b := nd36 [1, 1]) (k' := kj36_1  K) (by kernel_rfl) (fun st h => J36_1_ok  K st.tm st.g h) ?_
  try unfold J36_0 at h
  unfold kj36_1
  generalize @J36_1 = Q36_1 at h ⊢
  refine code2_sound ok_mono _ _ _ ?_
  refine kmp ?_ h
  generalize Ok Try.prog = C
  try unfold en36
  as_aux_lemma => kernel_rfl

noncomputable def F36 (x0 : LV) (g : LHeap) (K : LV → LHeap → Prop) : Prop :=
  J36_0 x0 g  K
theorem ok36 {x0 : LV} {g : LHeap} {K : LV → LHeap → Prop} (h : g.Wf → (∀ v ∈ ([x0] : List LV), ∀ b ∈ v.objs, b < g.next) → F36 x0 g K) : Ok Try.prog 36 [x0] g K := by
  refine ok_fw Try.mixed Try.func36 (by kernel_rfl) (by kernel_rfl) (c := nd36 []) (by kernel_rfl) fun wf lt => ?_
  rw [← en36_eq]
  replace h := h wf lt
  generalize hs : startL _ = tm
  replace h : F36 (tm 0) g K := by rw [← hs]; exact h
  refine seq_i (a := nd36 [0]) (b := nd36 [1]) (k' := kj36_0  K) (by kernel_rfl) (fun st h => J36_0_ok  K st.tm st.g h) ?_
  try unfold F36 at h
  unfold kj36_0
  generalize @J36_0 = Q36_0 at h ⊢
  refine code2_sound ok_mono _ _ _ ?_
  refine kmp ?_ h
  generalize Ok Try.prog = C
  try unfold en36
  as_aux_lemma => kernel_rfl

/-! slices.Contains[[]bool,bool] (9 slots) -/
noncomputable def en42 (K : LV → LHeap → Prop) : LEx → LSt → Prop := fun e st => match e with
  | .exit _ => False
  | _ => K (st.tm 4) st.g
theorem en42_eq (K : LV → LHeap → Prop) : en42 K = endL Try.prog Try.f42 K := by
  funext e st
  cases e <;> kernel_rfl
noncomputable def nd42 (p : List Nat) : Code := subC p (bodyC Try.prog 42)
noncomputable def F42 (x0 x1 : LV) (g : LHeap) (K : LV → LHeap → Prop) : Prop :=
  Ok Try.prog 61 [x0, x1] g fun t7 g =>
  vK (binL Try.prog .geq 3 true t7 (.int .i64 (0))) fun t8 =>
  K t8 g
theorem ok42 {x0 x1 : LV} {g : LHeap} {K : LV → LHeap → Prop} (h : g.Wf → (∀ v ∈ ([x0, x1] : List LV), ∀ b ∈ v.objs, b < g.next) → F42 x0 x1 g K) : Ok Try.prog 42 [x0, x1] g K := by
  refine ok_fw Try.mixed Try.func42 (by kernel_rfl) (by kernel_rfl) (c := nd42 []) (by kernel_rfl) fun wf lt => ?_
  rw [← en42_eq]
  replace h := h wf lt
  generalize hs : startL _ = tm
  replace h : F42 (tm 0) (tm 1) g K := by rw [← hs]; exact h
  try unfold F42 at h
  refine code2_sound ok_mono _ _ _ ?_
  refine kmp ?_ h
  generalize Ok Try.prog = C
  try unfold en42
  as_aux_lemma => kernel_rfl

/-! (*parapet/ptab.Table).made (12 slots) -/
noncomputable def en44 (K : LV → LHeap → Prop) : LEx → LSt → Prop := fun e st => match e with
  | .exit _ => False
  | _ => K (st.tm 2) st.g
theorem en44_eq (K : LV → LHeap → Prop) : en44 K = endL Try.prog Try.f44 K := by
  funext e st
  cases e <;> kernel_rfl
noncomputable def nd44 (p : List Nat) : Code := subC p (bodyC Try.prog 44)
noncomputable def F44 (x0 : LV) (g : LHeap) (K : LV → LHeap → Prop) : Prop :=
  vK (binL Try.prog .neq 61 true x0 .nilp) fun t4 =>
  gd t4 true g (fun K => K x0 g) fun t6 g =>
  gd t4 true g (fun K => vK (nilCheckP Try.prog t6) fun v => K v g) fun t7 g =>
  gd t4 true g (fun K => vK (fieldAddrL 0 t7) fun v => K v g) fun t8 g =>
  gd t4 true g (fun K => vK (loadV none t8 g) fun v => K v g) fun t9 g =>
  gd t4 true g (fun K => vK (binL Try.prog .neq 29 true t9 .nilp) fun v => K v g) fun t10 g =>
  vK (pickL t4 t10 (.bool false)) fun t11 =>
  K t11 g
theorem ok44 {x0 : LV} {g : LHeap} {K : LV → LHeap → Prop} (h : g.Wf → (∀ v ∈ ([x0] : List LV), ∀ b ∈ v.objs, b < g.next) → F44 x0 g K) : Ok Try.prog 44 [x0] g K := by
  refine ok_fw Try.mixed Try.func44 (by kernel_rfl) (by kernel_rfl) (c := nd44 []) (by kernel_rfl) fun wf lt => ?_
  rw [← en44_eq]
  replace h := h wf lt
  generalize hs : startL _ = tm
  replace h : F44 (tm 0) g K := by rw [← hs]; exact h
  try unfold F44 at h
  refine code2_sound ok_mono _ _ _ ?_
  refine kmp ?_ h
  generalize Ok Try.prog = C
  try unfold en44
  as_aux_lemma => kernel_rfl

/-! parapet/ptab.page (9 slots) -/
noncomputable def en45 (K : LV → LHeap → Prop) : LEx → LSt → Prop := fun e st => match e with
  | .exit _ => False
  | _ => K (st.tm 2) st.g
theorem en45_eq (K : LV → LHeap → Prop) : en45 K = endL Try.prog Try.f45 K := by
  funext e st
  cases e <;> kernel_rfl
noncomputable def nd45 (p : List Nat) : Code := subC p (bodyC Try.prog 45)
noncomputable def F45 (x0 : LV) (g : LHeap) (K : LV → LHeap → Prop) : Prop :=
  vK (binL Try.prog .geq 3 true x0 (.int .i64 (0))) fun t4 =>
  gd t4 true g (fun K => K x0 g) fun t6 g =>
  gd t4 true g (fun K => vK (binL Try.prog .lss 3 true t6 (.int .i64 (256))) fun v => K v g) fun t7 g =>
  vK (pickL t4 t7 (.bool false)) fun t8 =>
  K t8 g
theorem ok45 {x0 : LV} {g : LHeap} {K : LV → LHeap → Prop} (h : g.Wf → (∀ v ∈ ([x0] : List LV), ∀ b ∈ v.objs, b < g.next) → F45 x0 g K) : Ok Try.prog 45 [x0] g K := by
  refine ok_fw Try.mixed Try.func45 (by kernel_rfl) (by kernel_rfl) (c := nd45 []) (by kernel_rfl) fun wf lt => ?_
  rw [← en45_eq]
  replace h := h wf lt
  generalize hs : startL _ = tm
  replace h : F45 (tm 0) g K := by rw [← hs]; exact h
  try unfold F45 at h
  refine code2_sound ok_mono _ _ _ ?_
  refine kmp ?_ h
  generalize Ok Try.prog = C
  try unfold en45
  as_aux_lemma => kernel_rfl

/-! parapet/ptab.Walk (46 slots) -/
noncomputable def en46 (K : LV → LHeap → Prop) : LEx → LSt → Prop := fun e st => match e with
  | .exit _ => False
  | _ => K (st.tm 6) st.g
theorem en46_eq (K : LV → LHeap → Prop) : en46 K = endL Try.prog Try.f46 K := by
  funext e st
  cases e <;> kernel_rfl
noncomputable def nd46 (p : List Nat) : Code := subC p (bodyC Try.prog 46)
noncomputable def F46 (x0 x1 x2 : LV) (g : LHeap) (K : LV → LHeap → Prop) : Prop :=
  vK (binL Try.prog .eql 29 true x0 .nilp) fun t12 =>
  gd t12 false g (fun K => K x1 g) fun t14 g =>
  gd t12 false g (fun K => vK (binL Try.prog .lss 3 true t14 (.int .i64 (0))) fun v => K v g) fun t15 g =>
  vK (pickL t12 (.bool true) t15) fun t16 =>
  gd t16 false g (fun K => K x1 g) fun t18 g =>
  gd t16 false g (fun K => K x0 g) fun t19 g =>
  gd t16 false g (fun K => Ok Try.prog 21 [t19] g K) fun t20 g =>
  gd t16 false g (fun K => vK (binL Try.prog .geq 3 false t18 t20) fun v => K v g) fun t21 g =>
  vK (pickL t16 (.bool true) t21) fun t22 =>
  gd t22 false g (fun K => K x2 g) fun t24 g =>
  gd t22 false g (fun K => Ok Try.prog 45 [t24] g K) fun t25 g =>
  gd t22 false g (fun K => vK (unL .not t25) fun v => K v g) fun t26 g =>
  vK (pickL t22 (.bool true) t26) fun t27 =>
  ifB t27 (
  K (.int .u32 (0)) g) (
  Ok Try.prog 62 [x0, x1, x2] g fun t32 g =>
  vK (extractL t32 0) fun t33 =>
  vK (extractL t32 1) fun t34 =>
  vK (unL .not t34) fun t36 =>
  ifB t36 (
  K (.int .u32 (0)) g) (
  Ok Try.prog 64 [t33, x2] g fun t41 g =>
  Ok Try.prog 63 [x0, t41] g fun t42 g =>
  vK (extractL t42 0) fun t43 =>
  vK (extractL t42 1) fun t44 =>
  K t43 g))
theorem ok46 {x0 x1 x2 : LV} {g : LHeap} {K : LV → LHeap → Prop} (h : g.Wf → (∀ v ∈ ([x0, x1, x2] : List LV), ∀ b ∈ v.objs, b < g.next) → F46 x0 x1 x2 g K) : Ok Try.prog 46 [x0, x1, x2] g K := by
  refine ok_fw Try.mixed Try.func46 (by kernel_rfl) (by kernel_rfl) (c := nd46 []) (by kernel_rfl) fun wf lt => ?_
  rw [← en46_eq]
  replace h := h wf lt
  generalize hs : startL _ = tm
  replace h : F46 (tm 0) (tm 1) (tm 2) g K := by rw [← hs]; exact h
  try unfold F46 at h
  refine code2_sound ok_mono _ _ _ ?_
  refine kmp ?_ h
  generalize Ok Try.prog = C
  try unfold en46
  as_aux_lemma => kernel_rfl

/-! (*parapet/ptab.Table).Needs (30 slots) -/
noncomputable def en48 (K : LV → LHeap → Prop) : LEx → LSt → Prop := fun e st => match e with
  | .exit _ => False
  | _ => K (st.tm 4) st.g
theorem en48_eq (K : LV → LHeap → Prop) : en48 K = endL Try.prog Try.f48 K := by
  funext e st
  cases e <;> kernel_rfl
noncomputable def nd48 (p : List Nat) : Code := subC p (bodyC Try.prog 48)
noncomputable def F48 (x0 x1 : LV) (g : LHeap) (K : LV → LHeap → Prop) : Prop :=
  Ok Try.prog 44 [x0] g fun t8 g =>
  vK (unL .not t8) fun t9 =>
  gd t9 false g (fun K => K x1 g) fun t11 g =>
  gd t9 false g (fun K => Ok Try.prog 45 [t11] g K) fun t12 g =>
  gd t9 false g (fun K => vK (unL .not t12) fun v => K v g) fun t13 g =>
  vK (pickL t9 (.bool true) t13) fun t14 =>
  ifB t14 (
  K (.bool false) g) (
  vK (nilCheckP Try.prog x0) fun t17 =>
  vK (fieldAddrL 0 t17) fun t18 =>
  vK (loadV none t18 g) fun t19 =>
  vK (nilCheckP Try.prog x0) fun t21 =>
  vK (fieldAddrL 1 t21) fun t22 =>
  vK (loadV none t22 g) fun t23 =>
  ((Ok Try.prog 62 [t19, t23, x1] g fun t25 g =>
  
  vK (extractL t25 0) fun t26 =>
  vK (extractL t25 1) fun t27 =>
  vK (unL .not t27) fun t29 =>
  K t29 g) ∧ True))
theorem ok48 {x0 x1 : LV} {g : LHeap} {K : LV → LHeap → Prop} (h : g.Wf → (∀ v ∈ ([x0, x1] : List LV), ∀ b ∈ v.objs, b < g.next) → F48 x0 x1 g K) : Ok Try.prog 48 [x0, x1] g K := by
  refine ok_fw Try.mixed Try.func48 (by kernel_rfl) (by kernel_rfl) (c := nd48 []) (by kernel_rfl) fun wf lt => ?_
  rw [← en48_eq]
  replace h := h wf lt
  generalize hs : startL _ = tm
  replace h : F48 (tm 0) (tm 1) g K := by rw [← hs]; exact h
  try unfold F48 at h
  refine code3_sound ok_mono (pl := [(3, (.lt 0 false (.lt 1 false (.lt 2 false (.lt 3 false (.lt 4 false (.lt 5 false (.lt 6 false (.lt 7 false (.lt 8 false (.hv 9 (.lt 10 false (.lt 11 false (.lt 12 false (.lt 13 false (.lt 14 false .nil))))) .nil)))))))))))]) _ _ _ (by kernel_rfl) ?_
  refine kmp ?_ h
  generalize Ok Try.prog = C
  try unfold en48
  as_aux_lemma => kernel_rfl

/-! (*parapet/ptab.Table).Set (63 slots) -/
noncomputable def en50 (K : LV → LHeap → Prop) : LEx → LSt → Prop := fun e st => match e with
  | .exit _ => False
  | _ => K (.tuple [(st.tm 8), (st.tm 9)]) st.g
theorem en50_eq (K : LV → LHeap → Prop) : en50 K = endL Try.prog Try.f50 K := by
  funext e st
  cases e <;> kernel_rfl
noncomputable def nd50 (p : List Nat) : Code := subC p (bodyC Try.prog 50)
noncomputable def J50_3 (x0 x1 x2 x10 : LV) (g : LHeap)  (K : LV → LHeap → Prop) : Prop :=
  vK (nilCheckP Try.prog x0) fun t42 =>
  vK (fieldAddrL 0 t42) fun t43 =>
  vK (loadV none t43 g) fun t44 =>
  vK (nilCheckP Try.prog x0) fun t46 =>
  vK (fieldAddrL 1 t46) fun t47 =>
  vK (loadV none t47 g) fun t48 =>
  ((Ok Try.prog 62 [t44, t48, x1] g fun t50 g =>
  
  vK (extractL t50 0) fun t51 =>
  vK (extractL t50 1) fun t52 =>
  vK (nilCheckP Try.prog x0) fun t55 =>
  vK (fieldAddrL 0 t55) fun t56 =>
  vK (loadV none t56 g) fun t57 =>
  ((Ok Try.prog 64 [t51, x1] g fun t60 g =>
  ((loadV none t56 g) = some t57 ∧ 
  ((Ok Try.prog 68 [t57, t60, x2] g fun t62 g =>
  
  K (.tuple [x10, t62]) g) ∧ True))) ∧ True)) ∧ True)
abbrev kj50_3  (K : LV → LHeap → Prop) : LSt → Prop := fun st => J50_3 (st.tm 0) (st.tm 1) (st.tm 2) (st.tm 10) st.g  K
theorem J50_3_ok  (K : LV → LHeap → Prop) (tm : Nat → LV) (g : LHeap) (h : J50_3 (tm 0) (tm 1) (tm 2) (tm 10) g  K) : codeL Try.prog (Ok Try.prog) (nd50 [1, 1, 1, 1]) ⟨tm, g⟩ (en50 K) := by
  try unfold J50_3 at h
  refine code3_sound ok_mono (pl := [(14, (.lt 0 false (.lt 1 false (.lt 2 false (.lt 3 false (.lt 4 false (.lt 5 false (.lt 6 false (.lt 7 false (.lt 8 false (.hv 9 (.lt 10 false (.lt 11 false (.lt 12 false (.lt 13 false (.lt 14 false .nil))))) .nil)))))))))))]) _ _ _ (by kernel_rfl) ?_
  refine kmp ?_ h
  generalize Ok Try.prog = C
  try unfold en50
  as_aux_lemma => kernel_rfl

noncomputable def J50_2 (x0 x1 x2 x3 x10 : LV) (g : LHeap)  (K : LV → LHeap → Prop) : Prop :=
  ifB x10 (
  vK (binL Try.prog .eql 53 true x2 (.int .u32 (0))) fun t32 =>
  ifB t32 (
  K (.tuple [(.bool false), (.int .i64 (0))]) g) (
  Ok Try.prog 67 [x0, x1, x3] g fun t36 g =>
  vK (binL Try.prog .neq 27 true t36 (.int .i64 (0))) fun t38 =>
  ifB t38 (
  K (.tuple [(.bool false), t36]) g) (
  J50_3 x0 x1 x2 x10 g  K))) (
  J50_3 x0 x1 x2 x10 g  K)
abbrev kj50_2  (K : LV → LHeap → Prop) : LSt → Prop := fun st => J50_2 (st.tm 0) (st.tm 1) (st.tm 2) (st.tm 3) (st.tm 10) st.g  K
theorem J50_2_ok  (K : LV → LHeap → Prop) (tm : Nat → LV) (g : LHeap) (h : J50_2 (tm 0) (tm 1) (tm 2) (tm 3) (tm 10) g  K) : codeL Try.prog (Ok Try.prog) (nd50 [1, 1, 1]) ⟨tm, g⟩ (en50 K) := by
  refine seq_i (a := nd50 [1, 1, 1, 0]) (b := nd50 [1, 1, 1, 1]) (k' := kj50_3  K) (by kernel_rfl) (fun st h => J50_3_ok  K st.tm st.g h) ?_
  try unfold J50_2 at h
  unfold kj50_3
  generalize @J50_3 = Q50_3 at h ⊢
  refine code2_sound ok_mono _ _ _ ?_
  refine kmp ?_ h
  generalize Ok Try.prog = C
  try unfold en50
  as_aux_lemma => kernel_rfl

noncomputable def J50_1 (x0 x1 x2 x3 : LV) (g : LHeap)  (K : LV → LHeap → Prop) : Prop :=
  Ok Try.prog 48 [x0, x1] g fun t29 g =>
  J50_2 x0 x1 x2 x3 t29 g  K
abbrev kj50_1  (K : LV → LHeap → Prop) : LSt → Prop := fun st => J50_1 (st.tm 0) (st.tm 1) (st.tm 2) (st.tm 3) st.g  K
theorem J50_1_ok  (K : LV → LHeap → Prop) (tm : Nat → LV) (g : LHeap) (h : J50_1 (tm 0) (tm 1) (tm 2) (tm 3) g  K) : codeL Try.prog (Ok Try.prog) (nd50 [1, 1]) ⟨tm, g⟩ (en50 K) := by
  refine seq_i (a := nd50 [1, 1, 0]) (b := nd50 [1, 1, 1]) (k' := kj50_2  K) (by kernel_rfl) (fun st h => J50_2_ok  K st.tm st.g h) ?_
  try unfold J50_1 at h
  unfold kj50_2
  generalize @J50_2 = Q50_2 at h ⊢
  refine code2_sound ok_mono _ _ _ ?_
  refine kmp ?_ h
  generalize Ok Try.prog = C
  try unfold en50
  as_aux_lemma => kernel_rfl

noncomputable def J50_0 (x0 x1 x2 x3 : LV) (g : LHeap)  (K : LV → LHeap → Prop) : Prop :=
  Ok Try.prog 44 [x0] g fun t16 g =>
  vK (unL .not t16) fun t17 =>
  ifB t17 (
  K (.tuple [(.bool false), (.int .i64 (6))]) g) (
  Ok Try.prog 45 [x1] g fun t20 g =>
  vK (unL .not t20) fun t21 =>
  ifB t21 (
  K (.tuple [(.bool false), (.int .i64 (1))]) g) (
  Ok Try.prog 66 [x0, x2] g fun t25 g =>
  vK (unL .not t25) fun t26 =>
  ifB t26 (
  K (.tuple [(.bool false), (.int .i64 (50))]) g) (
  J50_1 x0 x1 x2 x3 g  K)))
abbrev kj50_0  (K : LV → LHeap → Prop) : LSt → Prop := fun st => J50_0 (st.tm 0) (st.tm 1) (st.tm 2) (st.tm 3) st.g  K
theorem J50_0_ok  (K : LV → LHeap → Prop) (tm : Nat → LV) (g : LHeap) (h : J50_0 (tm 0) (tm 1) (tm 2) (tm 3) g  K) : codeL Try.prog (Ok Try.prog) (nd50 [1]) ⟨tm, g⟩ (en50 K) := by
  refine seq_i (a := nd50 [1, 0]) (b := nd50 [1, 1]) (k' := kj50_1  K) (by kernel_rfl) (fun st h => J50_1_ok  K st.tm st.g h) ?_
  try unfold J50_0 at h
  unfold kj50_1
  generalize @J50_1 = Q50_1 at h ⊢
  refine code2_sound ok_mono _ _ _ ?_
  refine kmp ?_ h
  generalize Ok Try.prog = C
  try unfold en50
  as_aux_lemma => kernel_rfl

noncomputable def F50 (x0 x1 x2 x3 : LV) (g : LHeap) (K : LV → LHeap → Prop) : Prop :=
  J50_0 x0 x1 x2 x3 g  K
theorem ok50 {x0 x1 x2 x3 : LV} {g : LHeap} {K : LV → LHeap → Prop} (h : g.Wf → (∀ v ∈ ([x0, x1, x2, x3] : List LV), ∀ b ∈ v.objs, b < g.next) → F50 x0 x1 x2 x3 g K) : Ok Try.prog 50 [x0, x1, x2, x3] g K := by
  refine ok_fw Try.mixed Try.func50 (by kernel_rfl) (by kernel_rfl) (c := nd50 []) (by kernel_rfl) fun wf lt => ?_
  rw [← en50_eq]
  replace h := h wf lt
  generalize hs : startL _ = tm
  replace h : F50 (tm 0) (tm 1) (tm 2) (tm 3) g K := by rw [← hs]; exact h
  refine seq_i (a := nd50 [0]) (b := nd50 [1]) (k' := kj50_0  K) (by kernel_rfl) (fun st h => J50_0_ok  K st.tm st.g h) ?_
  try unfold F50 at h
  unfold kj50_0
  generalize @J50_0 = Q50_0 at h ⊢
  refine code2_sound ok_mono _ _ _ ?_
  refine kmp ?_ h
  generalize Ok Try.prog = C
  try unfold en50
  as_aux_lemma => kernel_rfl

/-! parapet/ptab.Pack (11 slots) -/
noncomputable def en51 (K : LV → LHeap → Prop) : LEx → LSt → Prop := fun e st => match e with
  | .exit _ => False
  | _ => K (st.tm 4) st.g
theorem en51_eq (K : LV → LHeap → Prop) : en51 K = endL Try.prog Try.f51 K := by
  funext e st
  cases e <;> kernel_rfl
noncomputable def nd51 (p : List Nat) : Code := subC p (bodyC Try.prog 51)
noncomputable def F51 (x0 x1 : LV) (g : LHeap) (K : LV → LHeap → Prop) : Prop :=
  oK (convL Try.prog 3 53 x0 g) fun t6 g =>
  vK (binL Try.prog .shl 53 true t6 (.int .u64 (8))) fun t7 =>
  oK (convL Try.prog 3 53 x1 g) fun t9 g =>
  vK (binL Try.prog .or 53 false t7 t9) fun t10 =>
  K t10 g
theorem ok51 {x0 x1 : LV} {g : LHeap} {K : LV → LHeap → Prop} (h : g.Wf → (∀ v ∈ ([x0, x1] : List LV), ∀ b ∈ v.objs, b < g.next) → F51 x0 x1 g K) : Ok Try.prog 51 [x0, x1] g K := by
  refine ok_fw Try.mixed Try.func51 (by kernel_rfl) (by kernel_rfl) (c := nd51 []) (by kernel_rfl) fun wf lt => ?_
  rw [← en51_eq]
  replace h := h wf lt
  generalize hs : startL _ = tm
  replace h : F51 (tm 0) (tm 1) g K := by rw [← hs]; exact h
  try unfold F51 at h
  refine code2_sound ok_mono _ _ _ ?_
  refine kmp ?_ h
  generalize Ok Try.prog = C
  try unfold en51
  as_aux_lemma => kernel_rfl

/-! (*parapet/ptab.Table).All (4 slots) -/
noncomputable def en56 (K : LV → LHeap → Prop) : LEx → LSt → Prop := fun e st => match e with
  | .exit _ => False
  | _ => K (st.tm 2) st.g
theorem en56_eq (K : LV → LHeap → Prop) : en56 K = endL Try.prog Try.f56 K := by
  funext e st
  cases e <;> kernel_rfl
noncomputable def nd56 (p : List Nat) : Code := subC p (bodyC Try.prog 56)
noncomputable def F56 (x0 : LV) (g : LHeap) (K : LV → LHeap → Prop) : Prop :=
  oK (newL x0 g) fun t1 g =>
  K (.func (.func 71) [] [t1]) g
theorem ok56 {x0 : LV} {g : LHeap} {K : LV → LHeap → Prop} (h : g.Wf → (∀ v ∈ ([x0] : List LV), ∀ b ∈ v.objs, b < g.next) → F56 x0 g K) : Ok Try.prog 56 [x0] g K := by
  refine ok_fw Try.mixed Try.func56 (by kernel_rfl) (by kernel_rfl) (c := nd56 []) (by kernel_rfl) fun wf lt => ?_
  rw [← en56_eq]
  replace h := h wf lt
  generalize hs : startL _ = tm
  replace h : F56 (tm 0) g K := by rw [← hs]; exact h
  try unfold F56 at h
  refine code2_sound ok_mono _ _ _ ?_
  refine kmp ?_ h
  generalize Ok Try.prog = C
  try unfold en56
  as_aux_lemma => kernel_rfl

/-! (*parapet/ptab.Table).Leaves (35 slots) -/
noncomputable def en57 (K : LV → LHeap → Prop) : LEx → LSt → Prop := fun e st => match e with
  | .exit _ => False
  | _ => K (st.tm 2) st.g
theorem en57_eq (K : LV → LHeap → Prop) : en57 K = endL Try.prog Try.f57 K := by
  funext e st
  cases e <;> kernel_rfl
noncomputable def nd57 (p : List Nat) : Code := subC p (bodyC Try.prog 57)
noncomputable def J57_3 (x3 : LV) (g : LHeap)  (K : LV → LHeap → Prop) : Prop :=
  Ok Try.prog 72 [x3] g fun t34 g =>
  K t34 g
abbrev kj57_3  (K : LV → LHeap → Prop) : LSt → Prop := fun st => J57_3 (st.tm 3) st.g  K
theorem J57_3_ok  (K : LV → LHeap → Prop) (tm : Nat → LV) (g : LHeap) (h : J57_3 (tm 3) g  K) : codeL Try.prog (Ok Try.prog) (nd57 [1, 1, 1, 1]) ⟨tm, g⟩ (en57 K) := by
  try unfold J57_3 at h
  refine code2_sound ok_mono _ _ _ ?_
  refine kmp ?_ h
  generalize Ok Try.prog = C
  try unfold en57
  as_aux_lemma => kernel_rfl

noncomputable def L57_5 (x0 : LV) (x3 x10 : LV) (g : LHeap) (N5 : LV × LV → LHeap → Prop) (K : LV → LHeap → Prop) : Prop :=
  vK (binL Try.prog .lss 3 true x10 (.int .i64 (4))) fun t11 =>
  ifB t11 (
  vK (nilCheckP Try.prog x0) fun t15 =>
  vK (fieldAddrL 0 t15) fun t16 =>
  vK (loadV none t16 g) fun t17 =>
  vK (nilCheckP Try.prog x0) fun t19 =>
  vK (fieldAddrL 1 t19) fun t20 =>
  vK (loadV none t20 g) fun t21 =>
  vK (binL Try.prog .shl 3 true x10 (.int .u64 (6))) fun t23 =>
  ((Ok Try.prog 62 [t17, t21, t23] g fun t24 g =>
  
  vK (extractL t24 0) fun t25 =>
  vK (extractL t24 1) fun t26 =>
  ifB t26 (
  oK (buildSliceL Try.prog 22 1 [(0, t25)] g) fun t30 g =>
  oK (builtinL Try.prog .append [22, 22] [x3, t30] g) fun t31 g =>
  vK (binL Try.prog .add 3 true x10 (.int .i64 (1))) fun t32 =>
  N5 (t31, t32) g) (
  vK (binL Try.prog .add 3 true x10 (.int .i64 (1))) fun t32 =>
  N5 (x3, t32) g)) ∧ True)) (
  J57_3 x3 g  K)
theorem L57_5_ok (R5 : LV → LV × LV → LHeap → Prop) (K : LV → LHeap → Prop) (tm : Nat → LV) (g : LHeap) (h : L57_5 (tm 0) (tm 3) (tm 10) g (fun s g => R5 (tm 0) s g) K) : codeL Try.prog (Ok Try.prog) (nd57 [1, 1, 1, 0, 1, 0, 0]) ⟨tm, g⟩ (roundK (fun tm : Nat → LV => tm 0) (fun tm : Nat → LV => (tm 3, tm 10)) R5 (exitL 0 (thenL (kj57_3  K) (en57 K)))) := by
  try unfold L57_5 at h
  unfold kj57_3
  generalize @J57_3 = Q57_3 at h ⊢
  refine code3_sound ok_mono (pl := [(7, (.lt 0 false (.lt 1 false (.lt 2 false (.lt 3 false (.lt 4 false (.lt 5 false (.lt 6 false (.lt 7 false (.lt 8 false (.lt 9 false (.hv 10 (.lt 11 false (.lt 12 false (.lt 13 false (.lt 14 false (.lt 15 false .nil))))) .nil))))))))))))]) _ _ _ (by kernel_rfl) ?_
  refine kmp ?_ h
  generalize Ok Try.prog = C
  try unfold en57
  as_aux_lemma => kernel_rfl

noncomputable def J57_4 (x0 x3 x10 : LV) (g : LHeap)  (K : LV → LHeap → Prop) : Prop :=
  loopP (fun s g N => L57_5 x0 s.1 s.2 g N  K) (x3, x10) g
abbrev kj57_4  (K : LV → LHeap → Prop) : LSt → Prop := fun st => J57_4 (st.tm 0) (st.tm 3) (st.tm 10) st.g  K
theorem J57_4_ok  (K : LV → LHeap → Prop) (tm : Nat → LV) (g : LHeap) (h : J57_4 (tm 0) (tm 3) (tm 10) g  K) : codeL Try.prog (Ok Try.prog) (nd57 [1, 1, 1, 0, 1]) ⟨tm, g⟩ (thenL (kj57_3  K) (en57 K)) := by
  refine block_i (b := nd57 [1, 1, 1, 0, 1, 0]) (i := 0) (by kernel_rfl) ?_
  exact loop_glue (b := nd57 [1, 1, 1, 0, 1, 0, 0]) (by kernel_rfl) (fun tm : Nat → LV => tm 0) (fun tm : Nat → LV => (tm 3, tm 10)) (fun a s g N => L57_5 a s.1 s.2 g N  K) (fun tm g R h => L57_5_ok R  K tm g h) tm g h

noncomputable def J57_2 (x0 x3 : LV) (g : LHeap)  (K : LV → LHeap → Prop) : Prop :=
  J57_4 x0 x3 (.int .i64 (0)) g  K
abbrev kj57_2  (K : LV → LHeap → Prop) : LSt → Prop := fun st => J57_2 (st.tm 0) (st.tm 3) st.g  K
theorem J57_2_ok  (K : LV → LHeap → Prop) (tm : Nat → LV) (g : LHeap) (h : J57_2 (tm 0) (tm 3) g  K) : codeL Try.prog (Ok Try.prog) (nd57 [1, 1, 1]) ⟨tm, g⟩ (en57 K) := by
  refine seq_i (a := nd57 [1, 1, 1, 0]) (b := nd57 [1, 1, 1, 1]) (k' := kj57_3  K) (by kernel_rfl) (fun st h => J57_3_ok  K st.tm st.g h) ?_
  refine seq_i (a := nd57 [1, 1, 1, 0, 0]) (b := nd57 [1, 1, 1, 0, 1]) (k' := kj57_4  K) (by kernel_rfl) (fun st h => J57_4_ok  K st.tm st.g h) ?_
  try unfold J57_2 at h
  unfold kj57_4
  generalize @J57_4 = Q57_4 at h ⊢
  unfold kj57_3
  generalize @J57_3 = Q57_3 at h ⊢
  refine code2_sound ok_mono _ _ _ ?_
  refine kmp ?_ h
  generalize Ok Try.prog = C
  try unfold en57
  as_aux_lemma => kernel_rfl

noncomputable def J57_1 (x0 : LV) (g : LHeap)  (K : LV → LHeap → Prop) : Prop :=
  J57_2 x0 .nils g  K
abbrev kj57_1  (K : LV → LHeap → Prop) : LSt → Prop := fun st => J57_1 (st.tm 0) st.g  K
theorem J57_1_ok  (K : LV → LHeap → Prop) (tm : Nat → LV) (g : LHeap) (h : J57_1 (tm 0) g  K) : codeL Try.prog (Ok Try.prog) (nd57 [1, 1]) ⟨tm, g⟩ (en57 K) := by
  refine seq_i (a := nd57 [1, 1, 0]) (b := nd57 [1, 1, 1]) (k' := kj57_2  K) (by kernel_rfl) (fun st h => J57_2_ok  K st.tm st.g h) ?_
  try unfold J57_1 at h
  unfold kj57_2
  generalize @J57_2 = Q57_2 at h ⊢
  refine code2_sound ok_mono _ _ _ ?_
  refine kmp ?_ h
  generalize Ok Try.prog = C
  try unfold en57
  as_aux_lemma => kernel_rfl

noncomputable def J57_0 (x0 : LV) (g : LHeap)  (K : LV → LHeap → Prop) : Prop :=
  Ok Try.prog 44 [x0] g fun t8 g =>
  vK (unL .not t8) fun t9 =>
  ifB t9 (
  K .nils g) (
  J57_1 x0 g  K)
abbrev kj57_0  (K : LV → LHeap → Prop) : LSt → Prop := fun st => J57_0 (st.tm 0) st.g  K
theorem J57_0_ok  (K : LV → LHeap → Prop) (tm : Nat → LV) (g : LHeap) (h : J57_0 (tm 0) g  K) : codeL Try.prog (Ok Try.prog) (nd57 [1]) ⟨tm, g⟩ (en57 K) := by
  refine seq_i (a := nd57 [1, 0]) (b := nd57 [1, 1]) (k' := kj57_1  K) (by kernel_rfl) (fun st h => J57_1_ok  K st.tm st.g h) ?_
  try unfold J57_0 at h
  unfold kj57_1
  generalize @J57_1 = Q57_1 at h ⊢
  refine code2_sound ok_mono _ _ _ ?_
  refine kmp ?_ h
  generalize Ok Try.prog = C
  try unfold en57
  as_aux_lemma => kernel_rfl

noncomputable def F57 (x0 : LV) (g : LHeap) (K : LV → LHeap → Prop) : Prop :=
  J57_0 x0 g  K
theorem ok57 {x0 : LV} {g : LHeap} {K : LV → LHeap → Prop} (h : g.Wf → (∀ v ∈ ([x0] : List LV), ∀ b ∈ v.objs, b < g.next) → F57 x0 g K) : Ok Try.prog 57 [x0] g K := by
  refine ok_fw Try.mixed Try.func57 (by kernel_rfl) (by kernel_rfl) (c := nd57 []) (by kernel_rfl) fun wf lt => ?_
  rw [← en57_eq]
  replace h := h wf lt
  generalize hs : startL _ = tm
  replace h : F57 (tm 0) g K := by rw [← hs]; exact h
  refine seq_i (a := nd57 [0]) (b := nd57 [1]) (k' := kj57_0  K) (by kernel_rfl) (fun st h => J57_0_ok  K st.tm st.g h) ?_
  try unfold F57 at h
  unfold kj57_0
  generalize @J57_0 = Q57_0 at h ⊢
  refine code2_sound ok_mono _ _ _ ?_
  refine kmp ?_ h
  generalize Ok Try.prog = C
  try unfold en57
  as_aux_lemma => kernel_rfl

/-! (*parapet/ptab.Table).Root (10 slots) -/
noncomputable def en58 (K : LV → LHeap → Prop) : LEx → LSt → Prop := fun e st => match e with
  | .exit _ => False
  | _ => K (st.tm 2) st.g
theorem en58_eq (K : LV → LHeap → Prop) : en58 K = endL Try.prog Try.f58 K := by
  funext e st
  cases e <;> kernel_rfl
noncomputable def nd58 (p : List Nat) : Code := subC p (bodyC Try.prog 58)
noncomputable def F58 (x0 : LV) (g : LHeap) (K : LV → LHeap → Prop) : Prop :=
  Ok Try.prog 44 [x0] g fun t4 g =>
  vK (unL .not t4) fun t5 =>
  ifB t5 (
  K (.int .i64 (-1)) g) (
  vK (nilCheckP Try.prog x0) fun t7 =>
  vK (fieldAddrL 1 t7) fun t8 =>
  vK (loadV none t8 g) fun t9 =>
  K t9 g)
theorem ok58 {x0 : LV} {g : LHeap} {K : LV → LHeap → Prop} (h : g.Wf → (∀ v ∈ ([x0] : List LV), ∀ b ∈ v.objs, b < g.next) → F58 x0 g K) : Ok Try.prog 58 [x0] g K := by
  refine ok_fw Try.mixed Try.func58 (by kernel_rfl) (by kernel_rfl) (c := nd58 []) (by kernel_rfl) fun wf lt => ?_
  rw [← en58_eq]
  replace h := h wf lt
  generalize hs : startL _ = tm
  replace h : F58 (tm 0) g K := by rw [← hs]; exact h
  try unfold F58 at h
  refine code2_sound ok_mono _ _ _ ?_
  refine kmp ?_ h
  generalize Ok Try.prog = C
  try unfold en58
  as_aux_lemma => kernel_rfl

/-! slices.Index[[]bool,bool] (19 slots) -/
noncomputable def en61 (K : LV → LHeap → Prop) : LEx → LSt → Prop := fun e st => match e with
  | .exit _ => False
  | _ => K (st.tm 4) st.g
theorem en61_eq (K : LV → LHeap → Prop) : en61 K = endL Try.prog Try.f61 K := by
  funext e st
  cases e <;> kernel_rfl
noncomputable def nd61 (p : List Nat) : Code := subC p (bodyC Try.prog 61)
noncomputable def J61_1 (g : LHeap)  (K : LV → LHeap → Prop) : Prop :=
  K (.int .i64 (-1)) g
abbrev kj61_1  (K : LV → LHeap → Prop) : LSt → Prop := fun st => J61_1  st.g  K
theorem J61_1_ok  (K : LV → LHeap → Prop) (tm : Nat → LV) (g : LHeap) (h : J61_1  g  K) : codeL Try.prog (Ok Try.prog) (nd61 [1, 1]) ⟨tm, g⟩ (en61 K) := by
  try unfold J61_1 at h
  refine code2_sound ok_mono _ _ _ ?_
  refine kmp ?_ h
  generalize Ok Try.prog = C
  try unfold en61
  as_aux_lemma => kernel_rfl

noncomputable def L61_3 (x0 x1 x7 : LV) (x8 : LV) (g : LHeap) (N3 : LV → LHeap → Prop) (K : LV → LHeap → Prop) : Prop :=
  vK (binL Try.prog .lss 3 false x8 x7) fun t9 =>
  ifB t9 (
  vK (ixAddrL none 1 x0 x8) fun t14 =>
  vK (loadV none t14 g) fun t15 =>
  vK (binL Try.prog .eql 4 false x1 t15) fun t16 =>
  ifB t16 (
  K x8 g) (
  vK (binL Try.prog .add 3 true x8 (.int .i64 (1))) fun t18 =>
  N3 t18 g)) (
  J61_1  g  K)
theorem L61_3_ok (R3 : LV × LV × LV → LV → LHeap → Prop) (K : LV → LHeap → Prop) (tm : Nat → LV) (g : LHeap) (h : L61_3 (tm 0) (tm 1) (tm 7) (tm 8) g (fun s g => R3 ((tm 0), (tm 1), (tm 7)) s g) K) : codeL Try.prog (Ok Try.prog) (nd61 [1, 0, 1, 0, 0]) ⟨tm, g⟩ (roundK (fun tm : Nat → LV => (tm 0, tm 1, tm 7)) (fun tm : Nat → LV => tm 8) R3 (exitL 0 (thenL (kj61_1  K) (en61 K)))) := by
  try unfold L61_3 at h
  unfold kj61_1
  generalize @J61_1 = Q61_1 at h ⊢
  refine code2_sound ok_mono _ _ _ ?_
  refine kmp ?_ h
  generalize Ok Try.prog = C
  try unfold en61
  as_aux_lemma => kernel_rfl

noncomputable def J61_2 (x0 x1 x7 x8 : LV) (g : LHeap)  (K : LV → LHeap → Prop) : Prop :=
  loopP (fun s g N => L61_3 x0 x1 x7 s g N  K) x8 g
abbrev kj61_2  (K : LV → LHeap → Prop) : LSt → Prop := fun st => J61_2 (st.tm 0) (st.tm 1) (st.tm 7) (st.tm 8) st.g  K
theorem J61_2_ok  (K : LV → LHeap → Prop) (tm : Nat → LV) (g : LHeap) (h : J61_2 (tm 0) (tm 1) (tm 7) (tm 8) g  K) : codeL Try.prog (Ok Try.prog) (nd61 [1, 0, 1]) ⟨tm, g⟩ (thenL (kj61_1  K) (en61 K)) := by
  refine block_i (b := nd61 [1, 0, 1, 0]) (i := 0) (by kernel_rfl) ?_
  exact loop_glue (b := nd61 [1, 0, 1, 0, 0]) (by kernel_rfl) (fun tm : Nat → LV => (tm 0, tm 1, tm 7)) (fun tm : Nat → LV => tm 8) (fun a s g N => L61_3 a.1 a.2.1 a.2.2 s g N  K) (fun tm g R h => L61_3_ok R  K tm g h) tm g h

noncomputable def J61_0 (x0 x1 : LV) (g : LHeap)  (K : LV → LHeap → Prop) : Prop :=
  oK (builtinL Try.prog .len [103] [x0] g) fun t7 g =>
  J61_2 x0 x1 t7 (.int .i64 (0)) g  K
abbrev kj61_0  (K : LV → LHeap → Prop) : LSt → Prop := fun st => J61_0 (st.tm 0) (st.tm 1) st.g  K
theorem J61_0_ok  (K : LV → LHeap → Prop) (tm : Nat → LV) (g : LHeap) (h : J61_0 (tm 0) (tm 1) g  K) : codeL Try.prog (Ok Try.prog) (nd61 [1]) ⟨tm, g⟩ (en61 K) := by
  refine seq_i (a := nd61 [1, 0]) (b := nd61 [1, 1]) (k' := kj61_1  K) (by kernel_rfl) (fun st h => J61_1_ok  K st.tm st.g h) ?_
  refine seq_i (a := nd61 [1, 0, 0]) (b := nd61 [1, 0, 1]) (k' := kj61_2  K) (by kernel_rfl) (fun st h => J61_2_ok  K st.tm st.g h) ?_
  try unfold J61_0 at h
  unfold kj61_2
  generalize @J61_2 = Q61_2 at h ⊢
  unfold kj61_1
  generalize @J61_1 = Q61_1 at h ⊢
  refine code2_sound ok_mono _ _ _ ?_
  refine kmp ?_ h
  generalize Ok Try.prog = C
  try unfold en61
  as_aux_lemma => kernel_rfl

noncomputable def F61 (x0 x1 : LV) (g : LHeap) (K : LV → LHeap → Prop) : Prop :=
  J61_0 x0 x1 g  K
theorem ok61 {x0 x1 : LV} {g : LHeap} {K : LV → LHeap → Prop} (h : g.Wf → (∀ v ∈ ([x0, x1] : List LV), ∀ b ∈ v.objs, b < g.next) → F61 x0 x1 g K) : Ok Try.prog 61 [x0, x1] g K := by
  refine ok_fw Try.mixed Try.func61 (by kernel_rfl) (by kernel_rfl) (c := nd61 []) (by kernel_rfl) fun wf lt => ?_
  rw [← en61_eq]
  replace h := h wf lt
  generalize hs : startL _ = tm
  replace h : F61 (tm 0) (tm 1) g K := by rw [← hs]; exact h
  refine seq_i (a := nd61 [0]) (b := nd61 [1]) (k' := kj61_0  K) (by kernel_rfl) (fun st h => J61_0_ok  K st.tm st.g h) ?_
  try unfold F61 at h
  unfold kj61_0
  generalize @J61_0 = Q61_0 at h ⊢
  refine code2_sound ok_mono _ _ _ ?_
  refine kmp ?_ h
  generalize Ok Try.prog = C
  try unfold en61
  as_aux_lemma => kernel_rfl

/-! parapet/ptab.leaf (37 slots) -/
noncomputable def en62 (K : LV → LHeap → Prop) : LEx → LSt → Prop := fun e st => match e with
  | .exit _ => False
  | _ => K (.tuple [(st.tm 6), (st.tm 7)]) st.g
theorem en62_eq (K : LV → LHeap → Prop) : en62 K = endL Try.prog Try.f62 K := by
  funext e st
  cases e <;> kernel_rfl
noncomputable def nd62 (p : List Nat) : Code := subC p (bodyC Try.prog 62)
noncomputable def F62 (x0 x1 x2 : LV) (g : LHeap) (K : LV → LHeap → Prop) : Prop :=
  vK (binL Try.prog .mul 3 true x1 (.int .i64 (256))) fun t13 =>
  vK (binL Try.prog .shr 3 true x2 (.int .u64 (6))) fun t15 =>
  vK (binL Try.prog .mul 3 true (.int .i64 (4)) t15) fun t16 =>
  vK (binL Try.prog .add 3 false t13 t16) fun t17 =>
  Ok Try.prog 63 [x0, t17] g fun t18 g =>
  vK (extractL t18 0) fun t19 =>
  vK (extractL t18 1) fun t20 =>
  vK (binL Try.prog .neq 27 true t20 (.int .i64 (0))) fun t22 =>
  gd t22 false g (fun K => K t19 g) fun t24 g =>
  gd t22 false g (fun K => Ok Try.prog 30 [t24] g K) fun t25 g =>
  gd t22 false g (fun K => vK (binL Try.prog .neq 3 true t25 (.int .i64 (1))) fun v => K v g) fun t26 g =>
  vK (pickL t22 (.bool true) t26) fun t27 =>
  gd t27 false g (fun K => K t19 g) fun t29 g =>
  gd t27 false g (fun K => Ok Try.prog 31 [t29] g K) fun t30 g =>
  gd t27 false g (fun K => K x0 g) fun t31 g =>
  gd t27 false g (fun K => Ok Try.prog 21 [t31] g K) fun t32 g =>
  gd t27 false g (fun K => vK (binL Try.prog .geq 3 false t30 t32) fun v => K v g) fun t33 g =>
  vK (pickL t27 (.bool true) t33) fun t34 =>
  ifB t34 (
  K (.tuple [(.int .i64 (0)), (.bool false)]) g) (
  Ok Try.prog 31 [t19] g fun t36 g =>
  K (.tuple [t36, (.bool true)]) g)
theorem ok62 {x0 x1 x2 : LV} {g : LHeap} {K : LV → LHeap → Prop} (h : g.Wf → (∀ v ∈ ([x0, x1, x2] : List LV), ∀ b ∈ v.objs, b < g.next) → F62 x0 x1 x2 g K) : Ok Try.prog 62 [x0, x1, x2] g K := by
  refine ok_fw Try.mixed Try.func62 (by kernel_rfl) (by kernel_rfl) (c := nd62 []) (by kernel_rfl) fun wf lt => ?_
  rw [← en62_eq]
  replace h := h wf lt
  generalize hs : startL _ = tm
  replace h : F62 (tm 0) (tm 1) (tm 2) g K := by rw [← hs]; exact h
  try unfold F62 at h
  refine code2_sound ok_mono _ _ _ ?_
  refine kmp ?_ h
  generalize Ok Try.prog = C
  try unfold en62
  as_aux_lemma => kernel_rfl

/-! parapet/ptab.at (11 slots) -/
noncomputable def en64 (K : LV → LHeap → Prop) : LEx → LSt → Prop := fun e st => match e with
  | .exit _ => False
  | _ => K (st.tm 4) st.g
theorem en64_eq (K : LV → LHeap → Prop) : en64 K = endL Try.prog Try.f64 K := by
  funext e st
  cases e <;> kernel_rfl
noncomputable def nd64 (p : List Nat) : Code := subC p (bodyC Try.prog 64)
noncomputable def F64 (x0 x1 : LV) (g : LHeap) (K : LV → LHeap → Prop) : Prop :=
  vK (binL Try.prog .mul 3 true x0 (.int .i64 (256))) fun t6 =>
  vK (binL Try.prog .and 3 true x1 (.int .i64 (63))) fun t8 =>
  vK (binL Try.prog .mul 3 true (.int .i64 (4)) t8) fun t9 =>
  vK (binL Try.prog .add 3 false t6 t9) fun t10 =>
  K t10 g
theorem ok64 {x0 x1 : LV} {g : LHeap} {K : LV → LHeap → Prop} (h : g.Wf → (∀ v ∈ ([x0, x1] : List LV), ∀ b ∈ v.objs, b < g.next) → F64 x0 x1 g K) : Ok Try.prog 64 [x0, x1] g K := by
  refine ok_fw Try.mixed Try.func64 (by kernel_rfl) (by kernel_rfl) (c := nd64 []) (by kernel_rfl) fun wf lt => ?_
  rw [← en64_eq]
  replace h := h wf lt
  generalize hs : startL _ = tm
  replace h : F64 (tm 0) (tm 1) g K := by rw [← hs]; exact h
  try unfold F64 at h
  refine code2_sound ok_mono _ _ _ ?_
  refine kmp ?_ h
  generalize Ok Try.prog = C
  try unfold en64
  as_aux_lemma => kernel_rfl

/-! (*parapet/ptab.Table).may (21 slots) -/
noncomputable def en66 (K : LV → LHeap → Prop) : LEx → LSt → Prop := fun e st => match e with
  | .exit _ => False
  | _ => K (st.tm 4) st.g
theorem en66_eq (K : LV → LHeap → Prop) : en66 K = endL Try.prog Try.f66 K := by
  funext e st
  cases e <;> kernel_rfl
noncomputable def nd66 (p : List Nat) : Code := subC p (bodyC Try.prog 66)
noncomputable def J66_1 (x1 : LV) (g : LHeap)  (K : LV → LHeap → Prop) : Prop :=
  vK (binL Try.prog .eql 53 true x1 (.int .u32 (0))) fun t20 =>
  K t20 g
abbrev kj66_1  (K : LV → LHeap → Prop) : LSt → Prop := fun st => J66_1 (st.tm 1) st.g  K
theorem J66_1_ok  (K : LV → LHeap → Prop) (tm : Nat → LV) (g : LHeap) (h : J66_1 (tm 1) g  K) : codeL Try.prog (Ok Try.prog) (nd66 [1, 1]) ⟨tm, g⟩ (en66 K) := by
  try unfold J66_1 at h
  refine code2_sound ok_mono _ _ _ ?_
  refine kmp ?_ h
  generalize Ok Try.prog = C
  try unfold en66
  as_aux_lemma => kernel_rfl

noncomputable def J66_3 (x0 x1 x7 : LV) (g : LHeap)  (K : LV → LHeap → Prop) : Prop :=
  ifB x7 (
  vK (nilCheckP Try.prog x0) fun t14 =>
  vK (fieldAddrL 0 t14) fun t15 =>
  vK (loadV none t15 g) fun t16 =>
  ((Ok Try.prog 31 [x1] g fun t12 g =>
  ((loadV none t15 g) = some t16 ∧ 
  ((Ok Try.prog 21 [t16] g fun t17 g =>
  
  vK (binL Try.prog .lss 3 false t12 t17) fun t18 =>
  K t18 g) ∧ True))) ∧ True)) (
  J66_1 x1 g  K)
abbrev kj66_3  (K : LV → LHeap → Prop) : LSt → Prop := fun st => J66_3 (st.tm 0) (st.tm 1) (st.tm 7) st.g  K
theorem J66_3_ok  (K : LV → LHeap → Prop) (tm : Nat → LV) (g : LHeap) (h : J66_3 (tm 0) (tm 1) (tm 7) g  K) : codeL Try.prog (Ok Try.prog) (nd66 [1, 0, 1, 0, 1]) ⟨tm, g⟩ (exitL 0 (thenL (kj66_1  K) (en66 K))) := by
  try unfold J66_3 at h
  unfold kj66_1
  generalize @J66_1 = Q66_1 at h ⊢
  refine code2_sound ok_mono _ _ _ ?_
  refine kmp ?_ h
  generalize Ok Try.prog = C
  try unfold en66
  as_aux_lemma => kernel_rfl

noncomputable def J66_2 (x0 x1 x6 : LV) (g : LHeap)  (K : LV → LHeap → Prop) : Prop :=
  vK (binL Try.prog .eql 3 true x6 (.int .i64 (1))) fun t8 =>
  ifB t8 (
  J66_3 x0 x1 t8 g  K) (
  vK (binL Try.prog .eql 3 true x6 (.int .i64 (3))) fun t9 =>
  ifB t9 (
  J66_3 x0 x1 t9 g  K) (
  vK (binL Try.prog .eql 3 true x6 (.int .i64 (5))) fun t10 =>
  J66_3 x0 x1 t10 g  K))
abbrev kj66_2  (K : LV → LHeap → Prop) : LSt → Prop := fun st => J66_2 (st.tm 0) (st.tm 1) (st.tm 6) st.g  K
theorem J66_2_ok  (K : LV → LHeap → Prop) (tm : Nat → LV) (g : LHeap) (h : J66_2 (tm 0) (tm 1) (tm 6) g  K) : codeL Try.prog (Ok Try.prog) (nd66 [1, 0, 1]) ⟨tm, g⟩ (thenL (kj66_1  K) (en66 K)) := by
  refine block_i (b := nd66 [1, 0, 1, 0]) (i := 0) (by kernel_rfl) ?_
  refine seq_i (a := nd66 [1, 0, 1, 0, 0]) (b := nd66 [1, 0, 1, 0, 1]) (k' := kj66_3  K) (by kernel_rfl) (fun st h => J66_3_ok  K st.tm st.g h) ?_
  try unfold J66_2 at h
  unfold kj66_3
  generalize @J66_3 = Q66_3 at h ⊢
  unfold kj66_1
  generalize @J66_1 = Q66_1 at h ⊢
  refine code2_sound ok_mono _ _ _ ?_
  refine kmp ?_ h
  generalize Ok Try.prog = C
  try unfold en66
  as_aux_lemma => kernel_rfl

noncomputable def J66_0 (x0 x1 : LV) (g : LHeap)  (K : LV → LHeap → Prop) : Prop :=
  Ok Try.prog 30 [x1] g fun t6 g =>
  J66_2 x0 x1 t6 g  K
abbrev kj66_0  (K : LV → LHeap → Prop) : LSt → Prop := fun st => J66_0 (st.tm 0) (st.tm 1) st.g  K
theorem J66_0_ok  (K : LV → LHeap → Prop) (tm : Nat → LV) (g : LHeap) (h : J66_0 (tm 0) (tm 1) g  K) : codeL Try.prog (Ok Try.prog) (nd66 [1]) ⟨tm, g⟩ (en66 K) := by
  refine seq_i (a := nd66 [1, 0]) (b := nd66 [1, 1]) (k' := kj66_1  K) (by kernel_rfl) (fun st h => J66_1_ok  K st.tm st.g h) ?_
  refine seq_i (a := nd66 [1, 0, 0]) (b := nd66 [1, 0, 1]) (k' := kj66_2  K) (by kernel_rfl) (fun st h => J66_2_ok  K st.tm st.g h) ?_
  try unfold J66_0 at h
  unfold kj66_2
  generalize @J66_2 = Q66_2 at h ⊢
  unfold kj66_1
  generalize @J66_1 = Q66_1 at h ⊢
  refine code2_sound ok_mono _ _ _ ?_
  refine kmp ?_ h
  generalize Ok Try.prog = C
  try unfold en66
  as_aux_lemma => kernel_rfl

noncomputable def F66 (x0 x1 : LV) (g : LHeap) (K : LV → LHeap → Prop) : Prop :=
  J66_0 x0 x1 g  K
theorem ok66 {x0 x1 : LV} {g : LHeap} {K : LV → LHeap → Prop} (h : g.Wf → (∀ v ∈ ([x0, x1] : List LV), ∀ b ∈ v.objs, b < g.next) → F66 x0 x1 g K) : Ok Try.prog 66 [x0, x1] g K := by
  refine ok_fw Try.mixed Try.func66 (by kernel_rfl) (by kernel_rfl) (c := nd66 []) (by kernel_rfl) fun wf lt => ?_
  rw [← en66_eq]
  replace h := h wf lt
  generalize hs : startL _ = tm
  replace h : F66 (tm 0) (tm 1) g K := by rw [← hs]; exact h
  refine seq_i (a := nd66 [0]) (b := nd66 [1]) (k' := kj66_0  K) (by kernel_rfl) (fun st h => J66_0_ok  K st.tm st.g h) ?_
  try unfold F66 at h
  unfold kj66_0
  generalize @J66_0 = Q66_0 at h ⊢
  refine code2_sound ok_mono _ _ _ ?_
  refine kmp ?_ h
  generalize Ok Try.prog = C
  try unfold en66
  as_aux_lemma => kernel_rfl

/-! (*parapet/ptab.Table).grow (35 slots) -/
noncomputable def en67 (K : LV → LHeap → Prop) : LEx → LSt → Prop := fun e st => match e with
  | .exit _ => False
  | _ => K (st.tm 6) st.g
theorem en67_eq (K : LV → LHeap → Prop) : en67 K = endL Try.prog Try.f67 K := by
  funext e st
  cases e <;> kernel_rfl
noncomputable def nd67 (p : List Nat) : Code := subC p (bodyC Try.prog 67)
noncomputable def F67 (x0 x1 x2 : LV) (g : LHeap) (K : LV → LHeap → Prop) : Prop :=
  vK (binL Try.prog .lss 3 true x2 (.int .i64 (0))) fun t9 =>
  ifB t9 (
  K (.int .i64 (2)) g) (
  vK (nilCheckP Try.prog x0) fun t11 =>
  vK (fieldAddrL 0 t11) fun t12 =>
  vK (loadV none t12 g) fun t13 =>
  Ok Try.prog 22 [t13, x2] g fun t15 g =>
  vK (binL Try.prog .neq 27 true t15 (.int .i64 (0))) fun t17 =>
  ifB t17 (
  K t15 g) (
  vK (nilCheckP Try.prog x0) fun t20 =>
  vK (fieldAddrL 0 t20) fun t21 =>
  vK (loadV none t21 g) fun t22 =>
  vK (nilCheckP Try.prog x0) fun t24 =>
  vK (fieldAddrL 1 t24) fun t25 =>
  vK (loadV none t25 g) fun t26 =>
  vK (binL Try.prog .mul 3 true t26 (.int .i64 (256))) fun t27 =>
  vK (binL Try.prog .shr 3 true x1 (.int .u64 (6))) fun t29 =>
  vK (binL Try.prog .mul 3 true (.int .i64 (4)) t29) fun t30 =>
  vK (binL Try.prog .add 3 false t27 t30) fun t31 =>
  ((Ok Try.prog 51 [x2, (.int .i64 (1))] g fun t33 g =>
  ((loadV none t25 g) = some t26 ∧ ((loadV none t21 g) = some t22 ∧ 
  ((Ok Try.prog 68 [t22, t31, t33] g fun t34 g =>
  
  K t34 g) ∧ True)))) ∧ True)))
theorem ok67 {x0 x1 x2 : LV} {g : LHeap} {K : LV → LHeap → Prop} (h : g.Wf → (∀ v ∈ ([x0, x1, x2] : List LV), ∀ b ∈ v.objs, b < g.next) → F67 x0 x1 x2 g K) : Ok Try.prog 67 [x0, x1, x2] g K := by
  refine ok_fw Try.mixed Try.func67 (by kernel_rfl) (by kernel_rfl) (c := nd67 []) (by kernel_rfl) fun wf lt => ?_
  rw [← en67_eq]
  replace h := h wf lt
  generalize hs : startL _ = tm
  replace h : F67 (tm 0) (tm 1) (tm 2) g K := by rw [← hs]; exact h
  try unfold F67 at h
  refine code3_sound ok_mono (pl := [(6, (.lt 0 false (.lt 1 false (.lt 2 false (.lt 3 true (.lt 4 false (.lt 5 false (.lt 6 false (.lt 7 true (.lt 8 false (.lt 9 false (.lt 10 false (.lt 11 false (.lt 12 false (.lt 13 false (.hv 14 (.hv 15 (.lt 16 false .nil) .nil) .nil))))))))))))))))]) _ _ _ (by kernel_rfl) ?_
  refine kmp ?_ h
  generalize Ok Try.prog = C
  try unfold en67
  as_aux_lemma => kernel_rfl

/-! (*parapet/ptab.Table).All$1 (31 slots) -/
noncomputable def en71 (K : LV → LHeap → Prop) : LEx → LSt → Prop := fun e st => match e with
  | .exit _ => False
  | _ => K (.tuple []) st.g
theorem en71_eq (K : LV → LHeap → Prop) : en71 K = endL Try.prog Try.f71 K := by
  funext e st
  cases e <;> kernel_rfl
noncomputable def nd71 (p : List Nat) : Code := subC p (bodyC Try.prog 71)
noncomputable def L71_2 (x0 x1 : LV) (x8 : LV) (g : LHeap) (N2 : LV → LHeap → Prop) (K : LV → LHeap → Prop) : Prop :=
  vK (binL Try.prog .lss 3 true x8 (.int .i64 (256))) fun t9 =>
  ifB t9 (
  vK (loadV none x1 g) fun t11 =>
  vK (nilCheckP Try.prog t11) fun t12 =>
  vK (fieldAddrL 0 t12) fun t13 =>
  vK (loadV none t13 g) fun t14 =>
  vK (loadV none x1 g) fun t15 =>
  vK (nilCheckP Try.prog t15) fun t16 =>
  vK (fieldAddrL 1 t16) fun t17 =>
  vK (loadV none t17 g) fun t18 =>
  ((Ok Try.prog 46 [t14, t18, x8] g fun t20 g =>
  
  vK (binL Try.prog .neq 53 true t20 (.int .u32 (0))) fun t22 =>
  gd t22 true g (fun K => K x0 g) fun t24 g =>
  gd t22 true g (fun K => K x8 g) fun t25 g =>
  gd t22 true g (fun K => K t20 g) fun t26 g =>
  gd t22 true g (fun K => callV Try.prog (Ok Try.prog) t24 [t25, t26] g K) fun t27 g =>
  gd t22 true g (fun K => vK (unL .not t27) fun v => K v g) fun t28 g =>
  vK (pickL t22 t28 (.bool false)) fun t29 =>
  ifB t29 (
  K (.tuple []) g) (
  vK (binL Try.prog .add 3 true x8 (.int .i64 (1))) fun t30 =>
  N2 t30 g)) ∧ True)) (
  K (.tuple []) g)
theorem L71_2_ok (R2 : LV × LV → LV → LHeap → Prop) (K : LV → LHeap → Prop) (tm : Nat → LV) (g : LHeap) (h : L71_2 (tm 0) (tm 1) (tm 8) g (fun s g => R2 ((tm 0), (tm 1)) s g) K) : codeL Try.prog (Ok Try.prog) (nd71 [1, 1, 0, 0]) ⟨tm, g⟩ (roundK (fun tm : Nat → LV => (tm 0, tm 1)) (fun tm : Nat → LV => tm 8) R2 (exitL 0 (en71 K))) := by
  try unfold L71_2 at h
  refine code2_sound ok_mono _ _ _ ?_
  refine kmp ?_ h
  generalize Ok Try.prog = C
  try unfold en71
  as_aux_lemma => kernel_rfl

noncomputable def J71_1 (x0 x1 x8 : LV) (g : LHeap)  (K : LV → LHeap → Prop) : Prop :=
  loopP (fun s g N => L71_2 x0 x1 s g N  K) x8 g
abbrev kj71_1  (K : LV → LHeap → Prop) : LSt → Prop := fun st => J71_1 (st.tm 0) (st.tm 1) (st.tm 8) st.g  K
theorem J71_1_ok  (K : LV → LHeap → Prop) (tm : Nat → LV) (g : LHeap) (h : J71_1 (tm 0) (tm 1) (tm 8) g  K) : codeL Try.prog (Ok Try.prog) (nd71 [1, 1]) ⟨tm, g⟩ (en71 K) := by
  refine block_i (b := nd71 [1, 1, 0]) (i := 0) (by kernel_rfl) ?_
  exact loop_glue (b := nd71 [1, 1, 0, 0]) (by kernel_rfl) (fun tm : Nat → LV => (tm 0, tm 1)) (fun tm : Nat → LV => tm 8) (fun a s g N => L71_2 a.1 a.2 s g N  K) (fun tm g R h => L71_2_ok R  K tm g h) tm g h

noncomputable def J71_0 (x0 x1 : LV) (g : LHeap)  (K : LV → LHeap → Prop) : Prop :=
  J71_1 x0 x1 (.int .i64 (0)) g  K
abbrev kj71_0  (K : LV → LHeap → Prop) : LSt → Prop := fun st => J71_0 (st.tm 0) (st.tm 1) st.g  K
theorem J71_0_ok  (K : LV → LHeap → Prop) (tm : Nat → LV) (g : LHeap) (h : J71_0 (tm 0) (tm 1) g  K) : codeL Try.prog (Ok Try.prog) (nd71 [1]) ⟨tm, g⟩ (en71 K) := by
  refine seq_i (a := nd71 [1, 0]) (b := nd71 [1, 1]) (k' := kj71_1  K) (by kernel_rfl) (fun st h => J71_1_ok  K st.tm st.g h) ?_
  try unfold J71_0 at h
  unfold kj71_1
  generalize @J71_1 = Q71_1 at h ⊢
  refine code2_sound ok_mono _ _ _ ?_
  refine kmp ?_ h
  generalize Ok Try.prog = C
  try unfold en71
  as_aux_lemma => kernel_rfl

noncomputable def F71 (x0 x1 : LV) (g : LHeap) (K : LV → LHeap → Prop) : Prop :=
  vK (loadV none x1 g) fun t5 =>
  Ok Try.prog 44 [t5] g fun t6 g =>
  vK (unL .not t6) fun t7 =>
  ifB t7 (
  K (.tuple []) g) (
  J71_0 x0 x1 g  K)
theorem ok71 {x0 x1 : LV} {g : LHeap} {K : LV → LHeap → Prop} (h : g.Wf → (∀ v ∈ ([x0, x1] : List LV), ∀ b ∈ v.objs, b < g.next) → F71 x0 x1 g K) : Ok Try.prog 71 [x0, x1] g K := by
  refine ok_fw Try.mixed Try.func71 (by kernel_rfl) (by kernel_rfl) (c := nd71 []) (by kernel_rfl) fun wf lt => ?_
  rw [← en71_eq]
  replace h := h wf lt
  generalize hs : startL _ = tm
  replace h : F71 (tm 0) (tm 1) g K := by rw [← hs]; exact h
  refine seq_i (a := nd71 [0]) (b := nd71 [1]) (k' := kj71_0  K) (by kernel_rfl) (fun st h => J71_0_ok  K st.tm st.g h) ?_
  try unfold F71 at h
  unfold kj71_0
  generalize @J71_0 = Q71_0 at h ⊢
  refine code2_sound ok_mono _ _ _ ?_
  refine kmp ?_ h
  generalize Ok Try.prog = C
  try unfold en71
  as_aux_lemma => kernel_rfl

/-! slices.Clip[[]int,int] (9 slots) -/
noncomputable def en72 (K : LV → LHeap → Prop) : LEx → LSt → Prop := fun e st => match e with
  | .exit _ => False
  | _ => K (st.tm 2) st.g
theorem en72_eq (K : LV → LHeap → Prop) : en72 K = endL Try.prog Try.f72 K := by
  funext e st
  cases e <;> kernel_rfl
noncomputable def nd72 (p : List Nat) : Code := subC p (bodyC Try.prog 72)
noncomputable def F72 (x0 : LV) (g : LHeap) (K : LV → LHeap → Prop) : Prop :=
  oK (builtinL Try.prog .len [22] [x0] g) fun t5 g =>
  oK (builtinL Try.prog .len [22] [x0] g) fun t7 g =>
  vK (cutT Try.prog 22 x0 none (some t5) (some t7) (limL x0 g)) fun t8 =>
  K t8 g
theorem ok72 {x0 : LV} {g : LHeap} {K : LV → LHeap → Prop} (h : g.Wf → (∀ v ∈ ([x0] : List LV), ∀ b ∈ v.objs, b < g.next) → F72 x0 g K) : Ok Try.prog 72 [x0] g K := by
  refine ok_fw Try.mixed Try.func72 (by kernel_rfl) (by kernel_rfl) (c := nd72 []) (by kernel_rfl) fun wf lt => ?_
  rw [← en72_eq]
  replace h := h wf lt
  generalize hs : startL _ = tm
  replace h : F72 (tm 0) g K := by rw [← hs]; exact h
  try unfold F72 at h
  refine code2_sound ok_mono _ _ _ ?_
  refine kmp ?_ h
  generalize Ok Try.prog = C
  try unfold en72
  as_aux_lemma => kernel_rfl

end Go.Proofs.Ytfbagndfifibiaa
