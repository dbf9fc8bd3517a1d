/-
  Functions of the program, as texts of named values.
-/
import Derived.Test.YthinkofjbabfbaaDoorNc0
set_option linter.all false
namespace Go.Proofs.YthinkofjbabfbaaDoor
open Go.ChangeShapes Go.WideShapes Go.ChangeAt Go.RowKit Go.Lm
set_option maxRecDepth 1000000
set_option linter.unusedVariables false
/-! parapet/parapetlaw19.NamecSplits (28 slots) -/
noncomputable def en3 (K : LV → LHeap → Prop) : LEx → LSt → Prop := fun e st => match e with
  | .exit _ => False
  | _ => K (st.tm 2) st.g
theorem en3_eq (K : LV → LHeap → Prop) : en3 K = endL Tryd.prog Tryd.f3 K := by
  funext e st
  cases e <;> kernel_rfl
noncomputable def nd3 (p : List Nat) : Code := subC p (bodyC Tryd.prog 3)
noncomputable def F3 (x0 : LV) (g : LHeap) (K : LV → LHeap → Prop) : Prop :=
  Ok Tryd.prog 11 [x0] g fun t9 g =>
  vK (extractL t9 0) fun t10 =>
  vK (extractL t9 1) fun t11 =>
  Ok Tryd.prog 12 [x0] g fun t14 g =>
  vK (extractL t14 0) fun t15 =>
  vK (extractL t14 1) fun t16 =>
  Ok Tryd.prog 13 [] g fun t17 g =>
  gd t17 true g (fun K => K t10 g) fun t19 g =>
  gd t17 true g (fun K => K t15 g) fun t20 g =>
  gd t17 true g (fun K => Ok Tryd.prog 14 [t19, t20] g K) fun t21 g =>
  vK (pickL t17 t21 (.bool false)) fun t22 =>
  gd t22 true g (fun K => K t11 g) fun t24 g =>
  gd t22 true g (fun K => K t16 g) fun t25 g =>
  gd t22 true g (fun K => vK (binL Tryd.prog .eql 23 false t24 t25) fun v => K v g) fun t26 g =>
  vK (pickL t22 t26 (.bool false)) fun t27 =>
  K t27 g
theorem ok3 {x0 : LV} {g : LHeap} {K : LV → LHeap → Prop} (h : g.Wf → (∀ v ∈ ([x0] : List LV), ∀ b ∈ v.objs, b < g.next) → F3 x0 g K) : Ok Tryd.prog 3 [x0] g K := by
  refine ok_fw Tryd.mixed Tryd.func3 (by kernel_rfl) (by kernel_rfl) (c := nd3 []) (by kernel_rfl) fun wf lt => ?_
  rw [← en3_eq]
  replace h := h wf lt
  generalize hs : startL _ = tm
  replace h : F3 (tm 0) g K := by rw [← hs]; exact h
  try unfold F3 at h
  refine code2_sound ok_mono _ _ _ ?_
  refine kmp ?_ h
  generalize Ok Tryd.prog = C
  try unfold en3
  as_aux_lemma => kernel_rfl

/-! parapet/namec.Split (46 slots) -/
noncomputable def en11 (K : LV → LHeap → Prop) : LEx → LSt → Prop := fun e st => match e with
  | .exit _ => False
  | _ => K (.tuple [(st.tm 2), (st.tm 3)]) st.g
theorem en11_eq (K : LV → LHeap → Prop) : en11 K = endL Tryd.prog Tryd.f11 K := by
  funext e st
  cases e <;> kernel_rfl
noncomputable def nd11 (p : List Nat) : Code := subC p (bodyC Tryd.prog 11)
noncomputable def J11_3 (x4 : LV) (g : LHeap)  (K : LV → LHeap → Prop) : Prop :=
  oK (builtinL Tryd.prog .len [22] [x4] g) fun t43 g =>
  vK (binL Tryd.prog .gtr 3 true t43 (.int .i64 (32))) fun t44 =>
  ifB t44 (
  K (.tuple [.nils, (.int .i64 (190))]) g) (
  K (.tuple [x4, (.int .i64 (0))]) g)
abbrev kj11_3  (K : LV → LHeap → Prop) : LSt → Prop := fun st => J11_3 (st.tm 4) st.g  K
theorem J11_3_ok  (K : LV → LHeap → Prop) (tm : Nat → LV) (g : LHeap) (h : J11_3 (tm 4) g  K) : codeL Tryd.prog (Ok Tryd.prog) (nd11 [1, 1, 1, 1]) ⟨tm, g⟩ (en11 K) := by
  try unfold J11_3 at h
  refine code2_sound ok_mono _ _ _ ?_
  refine kmp ?_ h
  generalize Ok Tryd.prog = C
  try unfold en11
  as_aux_lemma => kernel_rfl

noncomputable def L11_5 (x26 x27 : LV) (x4 x28 : LV) (g : LHeap) (N5 : LV × LV → LHeap → Prop) (K : LV → LHeap → Prop) : Prop :=
  vK (binL Tryd.prog .lss 3 false x28 x27) fun t29 =>
  ifB t29 (
  vK (ixAddrL none 1 x26 x28) fun t30 =>
  vK (loadV none t30 g) fun t31 =>
  oK (builtinL Tryd.prog .len [9] [t31] g) fun t33 g =>
  vK (binL Tryd.prog .gtr 3 true t33 (.int .i64 (14))) fun t34 =>
  ifB t34 (
  K (.tuple [.nils, (.int .i64 (190))]) g) (
  vK (binL Tryd.prog .neq 9 true t31 (.str [])) fun t36 =>
  ifB t36 (
  oK (buildSliceL Tryd.prog 22 1 [(0, t31)] g) fun t39 g =>
  oK (builtinL Tryd.prog .append [22, 22] [x4, t39] g) fun t40 g =>
  vK (binL Tryd.prog .add 3 true x28 (.int .i64 (1))) fun t41 =>
  N5 (t40, t41) g) (
  vK (binL Tryd.prog .add 3 true x28 (.int .i64 (1))) fun t41 =>
  N5 (x4, t41) g))) (
  J11_3 x4 g  K)
theorem L11_5_ok (R5 : LV × LV → LV × LV → LHeap → Prop) (K : LV → LHeap → Prop) (tm : Nat → LV) (g : LHeap) (h : L11_5 (tm 26) (tm 27) (tm 4) (tm 28) g (fun s g => R5 ((tm 26), (tm 27)) s g) K) : codeL Tryd.prog (Ok Tryd.prog) (nd11 [1, 1, 1, 0, 1, 0, 0]) ⟨tm, g⟩ (roundK (fun tm : Nat → LV => (tm 26, tm 27)) (fun tm : Nat → LV => (tm 4, tm 28)) R5 (exitL 0 (thenL (kj11_3  K) (en11 K)))) := by
  try unfold L11_5 at h
  unfold kj11_3
  generalize @J11_3 = Q11_3 at h ⊢
  refine code2_sound ok_mono _ _ _ ?_
  refine kmp ?_ h
  generalize Ok Tryd.prog = C
  try unfold en11
  as_aux_lemma => kernel_rfl

noncomputable def J11_4 (x4 x26 x27 x28 : LV) (g : LHeap)  (K : LV → LHeap → Prop) : Prop :=
  loopP (fun s g N => L11_5 x26 x27 s.1 s.2 g N  K) (x4, x28) g
abbrev kj11_4  (K : LV → LHeap → Prop) : LSt → Prop := fun st => J11_4 (st.tm 4) (st.tm 26) (st.tm 27) (st.tm 28) st.g  K
theorem J11_4_ok  (K : LV → LHeap → Prop) (tm : Nat → LV) (g : LHeap) (h : J11_4 (tm 4) (tm 26) (tm 27) (tm 28) g  K) : codeL Tryd.prog (Ok Tryd.prog) (nd11 [1, 1, 1, 0, 1]) ⟨tm, g⟩ (thenL (kj11_3  K) (en11 K)) := by
  refine block_i (b := nd11 [1, 1, 1, 0, 1, 0]) (i := 0) (by kernel_rfl) ?_
  exact loop_glue (b := nd11 [1, 1, 1, 0, 1, 0, 0]) (by kernel_rfl) (fun tm : Nat → LV => (tm 26, tm 27)) (fun tm : Nat → LV => (tm 4, tm 28)) (fun a s g N => L11_5 a.1 a.2 s.1 s.2 g N  K) (fun tm g R h => L11_5_ok R  K tm g h) tm g h

noncomputable def J11_2 (x0 x4 : LV) (g : LHeap)  (K : LV → LHeap → Prop) : Prop :=
  Ok Tryd.prog 54 [x0, (.str [47])] g fun t26 g =>
  oK (builtinL Tryd.prog .len [22] [t26] g) fun t27 g =>
  J11_4 x4 t26 t27 (.int .i64 (0)) g  K
abbrev kj11_2  (K : LV → LHeap → Prop) : LSt → Prop := fun st => J11_2 (st.tm 0) (st.tm 4) st.g  K
theorem J11_2_ok  (K : LV → LHeap → Prop) (tm : Nat → LV) (g : LHeap) (h : J11_2 (tm 0) (tm 4) g  K) : codeL Tryd.prog (Ok Tryd.prog) (nd11 [1, 1, 1]) ⟨tm, g⟩ (en11 K) := by
  refine seq_i (a := nd11 [1, 1, 1, 0]) (b := nd11 [1, 1, 1, 1]) (k' := kj11_3  K) (by kernel_rfl) (fun st h => J11_3_ok  K st.tm st.g h) ?_
  refine seq_i (a := nd11 [1, 1, 1, 0, 0]) (b := nd11 [1, 1, 1, 0, 1]) (k' := kj11_4  K) (by kernel_rfl) (fun st h => J11_4_ok  K st.tm st.g h) ?_
  try unfold J11_2 at h
  unfold kj11_4
  generalize @J11_4 = Q11_4 at h ⊢
  unfold kj11_3
  generalize @J11_3 = Q11_3 at h ⊢
  refine code2_sound ok_mono _ _ _ ?_
  refine kmp ?_ h
  generalize Ok Tryd.prog = C
  try unfold en11
  as_aux_lemma => kernel_rfl

noncomputable def J11_1 (x0 : LV) (g : LHeap)  (K : LV → LHeap → Prop) : Prop :=
  J11_2 x0 .nils g  K
abbrev kj11_1  (K : LV → LHeap → Prop) : LSt → Prop := fun st => J11_1 (st.tm 0) st.g  K
theorem J11_1_ok  (K : LV → LHeap → Prop) (tm : Nat → LV) (g : LHeap) (h : J11_1 (tm 0) g  K) : codeL Tryd.prog (Ok Tryd.prog) (nd11 [1, 1]) ⟨tm, g⟩ (en11 K) := by
  refine seq_i (a := nd11 [1, 1, 0]) (b := nd11 [1, 1, 1]) (k' := kj11_2  K) (by kernel_rfl) (fun st h => J11_2_ok  K st.tm st.g h) ?_
  try unfold J11_1 at h
  unfold kj11_2
  generalize @J11_2 = Q11_2 at h ⊢
  refine code2_sound ok_mono _ _ _ ?_
  refine kmp ?_ h
  generalize Ok Tryd.prog = C
  try unfold en11
  as_aux_lemma => kernel_rfl

noncomputable def J11_0 (x0 : LV) (g : LHeap)  (K : LV → LHeap → Prop) : Prop :=
  oK (builtinL Tryd.prog .len [9] [x0] g) fun t8 g =>
  vK (binL Tryd.prog .lss 3 true t8 (.int .i64 (1))) fun t9 =>
  gd t9 false g (fun K => K x0 g) fun t11 g =>
  gd t9 false g (fun K => oK (builtinL Tryd.prog .len [9] [t11] g) K) fun t12 g =>
  gd t9 false g (fun K => vK (binL Tryd.prog .gtr 3 true t12 (.int .i64 (64))) fun v => K v g) fun t13 g =>
  vK (pickL t9 (.bool true) t13) fun t14 =>
  gd t14 false g (fun K => K x0 g) fun t16 g =>
  gd t14 false g (fun K => vK (indexT Tryd.prog 9 t16 (.int .i64 (0))) fun v => K v g) fun t17 g =>
  gd t14 false g (fun K => vK (binL Tryd.prog .neq 5 true t17 (.int .u8 (47))) fun v => K v g) fun t18 g =>
  vK (pickL t14 (.bool true) t18) fun t19 =>
  gd t19 false g (fun K => K x0 g) fun t21 g =>
  gd t19 false g (fun K => Ok Tryd.prog 53 [t21, (.int .u8 (0))] g K) fun t22 g =>
  gd t19 false g (fun K => vK (binL Tryd.prog .geq 3 true t22 (.int .i64 (0))) fun v => K v g) fun t23 g =>
  vK (pickL t19 (.bool true) t23) fun t24 =>
  ifB t24 (
  K (.tuple [.nils, (.int .i64 (190))]) g) (
  J11_1 x0 g  K)
abbrev kj11_0  (K : LV → LHeap → Prop) : LSt → Prop := fun st => J11_0 (st.tm 0) st.g  K
theorem J11_0_ok  (K : LV → LHeap → Prop) (tm : Nat → LV) (g : LHeap) (h : J11_0 (tm 0) g  K) : codeL Tryd.prog (Ok Tryd.prog) (nd11 [1]) ⟨tm, g⟩ (en11 K) := by
  refine seq_i (a := nd11 [1, 0]) (b := nd11 [1, 1]) (k' := kj11_1  K) (by kernel_rfl) (fun st h => J11_1_ok  K st.tm st.g h) ?_
  try unfold J11_0 at h
  unfold kj11_1
  generalize @J11_1 = Q11_1 at h ⊢
  refine code2_sound ok_mono _ _ _ ?_
  refine kmp ?_ h
  generalize Ok Tryd.prog = C
  try unfold en11
  as_aux_lemma => kernel_rfl

noncomputable def F11 (x0 : LV) (g : LHeap) (K : LV → LHeap → Prop) : Prop :=
  J11_0 x0 g  K
theorem ok11 {x0 : LV} {g : LHeap} {K : LV → LHeap → Prop} (h : g.Wf → (∀ v ∈ ([x0] : List LV), ∀ b ∈ v.objs, b < g.next) → F11 x0 g K) : Ok Tryd.prog 11 [x0] g K := by
  refine ok_fw Tryd.mixed Tryd.func11 (by kernel_rfl) (by kernel_rfl) (c := nd11 []) (by kernel_rfl) fun wf lt => ?_
  rw [← en11_eq]
  replace h := h wf lt
  generalize hs : startL _ = tm
  replace h : F11 (tm 0) g K := by rw [← hs]; exact h
  refine seq_i (a := nd11 [0]) (b := nd11 [1]) (k' := kj11_0  K) (by kernel_rfl) (fun st h => J11_0_ok  K st.tm st.g h) ?_
  try unfold F11 at h
  unfold kj11_0
  generalize @J11_0 = Q11_0 at h ⊢
  refine code2_sound ok_mono _ _ _ ?_
  refine kmp ?_ h
  generalize Ok Tryd.prog = C
  try unfold en11
  as_aux_lemma => kernel_rfl

/-! parapet/parapetref19.Split (60 slots) -/
noncomputable def en12 (K : LV → LHeap → Prop) : LEx → LSt → Prop := fun e st => match e with
  | .exit _ => False
  | _ => K (.tuple [(st.tm 2), (st.tm 3)]) st.g
theorem en12_eq (K : LV → LHeap → Prop) : en12 K = endL Tryd.prog Tryd.f12 K := by
  funext e st
  cases e <;> kernel_rfl
noncomputable def nd12 (p : List Nat) : Code := subC p (bodyC Tryd.prog 12)
noncomputable def J12_4 (x4 : LV) (g : LHeap)  (K : LV → LHeap → Prop) : Prop :=
  oK (builtinL Tryd.prog .len [22] [x4] g) fun t57 g =>
  vK (binL Tryd.prog .gtr 3 true t57 (.int .i64 (32))) fun t58 =>
  ifB t58 (
  K (.tuple [.nils, (.int .i64 (190))]) g) (
  K (.tuple [x4, (.int .i64 (0))]) g)
abbrev kj12_4  (K : LV → LHeap → Prop) : LSt → Prop := fun st => J12_4 (st.tm 4) st.g  K
theorem J12_4_ok  (K : LV → LHeap → Prop) (tm : Nat → LV) (g : LHeap) (h : J12_4 (tm 4) g  K) : codeL Tryd.prog (Ok Tryd.prog) (nd12 [1, 1, 1, 1, 1]) ⟨tm, g⟩ (en12 K) := by
  try unfold J12_4 at h
  refine code2_sound ok_mono _ _ _ ?_
  refine kmp ?_ h
  generalize Ok Tryd.prog = C
  try unfold en12
  as_aux_lemma => kernel_rfl

noncomputable def L12_6 (x0 : LV) (x4 x5 x6 : LV) (g : LHeap) (N6 : LV × LV × LV → LHeap → Prop) (K : LV → LHeap → Prop) : Prop :=
  oK (builtinL Tryd.prog .len [9] [x0] g) fun t22 g =>
  vK (binL Tryd.prog .leq 3 false x6 t22) fun t23 =>
  ifB t23 (
  oK (builtinL Tryd.prog .len [9] [x0] g) fun t28 g =>
  vK (binL Tryd.prog .eql 3 false x6 t28) fun t29 =>
  gd t29 false g (fun K => K x0 g) fun t31 g =>
  gd t29 false g (fun K => K x6 g) fun t32 g =>
  gd t29 false g (fun K => vK (indexT Tryd.prog 9 t31 t32) fun v => K v g) fun t33 g =>
  gd t29 false g (fun K => vK (binL Tryd.prog .eql 5 true t33 (.int .u8 (47))) fun v => K v g) fun t34 g =>
  vK (pickL t29 (.bool true) t34) fun t35 =>
  ifB t35 (
  oK (builtinL Tryd.prog .len [9] [x5] g) fun t37 g =>
  vK (binL Tryd.prog .gtr 3 true t37 (.int .i64 (14))) fun t38 =>
  ifB t38 (
  K (.tuple [.nils, (.int .i64 (190))]) g) (
  vK (binL Tryd.prog .neq 9 true x5 (.str [])) fun t40 =>
  ifB t40 (
  oK (buildSliceL Tryd.prog 22 1 [(0, x5)] g) fun t43 g =>
  oK (builtinL Tryd.prog .append [22, 22] [x4, t43] g) fun t44 g =>
  vK (binL Tryd.prog .add 3 true x6 (.int .i64 (1))) fun t25 =>
  N6 (t44, (.str []), t25) g) (
  vK (binL Tryd.prog .add 3 true x6 (.int .i64 (1))) fun t25 =>
  N6 (x4, (.str []), t25) g))) (
  vK (indexT Tryd.prog 9 x0 x6) fun t47 =>
  vK (binL Tryd.prog .eql 5 true t47 (.int .u8 (0))) fun t48 =>
  ifB t48 (
  K (.tuple [.nils, (.int .i64 (190))]) g) (
  vK (indexT Tryd.prog 9 x0 x6) fun t52 =>
  oK (buildSliceL Tryd.prog 88 1 [(0, t52)] g) fun t53 g =>
  oK (convL Tryd.prog 88 9 t53 g) fun t54 g =>
  vK (binL Tryd.prog .add 9 false x5 t54) fun t55 =>
  vK (binL Tryd.prog .add 3 true x6 (.int .i64 (1))) fun t25 =>
  N6 (x4, t55, t25) g))) (
  J12_4 x4 g  K)
theorem L12_6_ok (R6 : LV → LV × LV × LV → LHeap → Prop) (K : LV → LHeap → Prop) (tm : Nat → LV) (g : LHeap) (h : L12_6 (tm 0) (tm 4) (tm 5) (tm 6) g (fun s g => R6 (tm 0) s g) K) : codeL Tryd.prog (Ok Tryd.prog) (nd12 [1, 1, 1, 1, 0, 1, 0, 0]) ⟨tm, g⟩ (roundK (fun tm : Nat → LV => tm 0) (fun tm : Nat → LV => (tm 4, tm 5, tm 6)) R6 (exitL 0 (thenL (kj12_4  K) (en12 K)))) := by
  try unfold L12_6 at h
  unfold kj12_4
  generalize @J12_4 = Q12_4 at h ⊢
  refine code2_sound ok_mono _ _ _ ?_
  refine kmp ?_ h
  generalize Ok Tryd.prog = C
  try unfold en12
  as_aux_lemma => kernel_rfl

noncomputable def J12_5 (x0 x4 x5 x6 : LV) (g : LHeap)  (K : LV → LHeap → Prop) : Prop :=
  loopP (fun s g N => L12_6 x0 s.1 s.2.1 s.2.2 g N  K) (x4, x5, x6) g
abbrev kj12_5  (K : LV → LHeap → Prop) : LSt → Prop := fun st => J12_5 (st.tm 0) (st.tm 4) (st.tm 5) (st.tm 6) st.g  K
theorem J12_5_ok  (K : LV → LHeap → Prop) (tm : Nat → LV) (g : LHeap) (h : J12_5 (tm 0) (tm 4) (tm 5) (tm 6) g  K) : codeL Tryd.prog (Ok Tryd.prog) (nd12 [1, 1, 1, 1, 0, 1]) ⟨tm, g⟩ (thenL (kj12_4  K) (en12 K)) := by
  refine block_i (b := nd12 [1, 1, 1, 1, 0, 1, 0]) (i := 0) (by kernel_rfl) ?_
  exact loop_glue (b := nd12 [1, 1, 1, 1, 0, 1, 0, 0]) (by kernel_rfl) (fun tm : Nat → LV => tm 0) (fun tm : Nat → LV => (tm 4, tm 5, tm 6)) (fun a s g N => L12_6 a s.1 s.2.1 s.2.2 g N  K) (fun tm g R h => L12_6_ok R  K tm g h) tm g h

noncomputable def J12_3 (x0 x4 x5 : LV) (g : LHeap)  (K : LV → LHeap → Prop) : Prop :=
  J12_5 x0 x4 x5 (.int .i64 (0)) g  K
abbrev kj12_3  (K : LV → LHeap → Prop) : LSt → Prop := fun st => J12_3 (st.tm 0) (st.tm 4) (st.tm 5) st.g  K
theorem J12_3_ok  (K : LV → LHeap → Prop) (tm : Nat → LV) (g : LHeap) (h : J12_3 (tm 0) (tm 4) (tm 5) g  K) : codeL Tryd.prog (Ok Tryd.prog) (nd12 [1, 1, 1, 1]) ⟨tm, g⟩ (en12 K) := by
  refine seq_i (a := nd12 [1, 1, 1, 1, 0]) (b := nd12 [1, 1, 1, 1, 1]) (k' := kj12_4  K) (by kernel_rfl) (fun st h => J12_4_ok  K st.tm st.g h) ?_
  refine seq_i (a := nd12 [1, 1, 1, 1, 0, 0]) (b := nd12 [1, 1, 1, 1, 0, 1]) (k' := kj12_5  K) (by kernel_rfl) (fun st h => J12_5_ok  K st.tm st.g h) ?_
  try unfold J12_3 at h
  unfold kj12_5
  generalize @J12_5 = Q12_5 at h ⊢
  unfold kj12_4
  generalize @J12_4 = Q12_4 at h ⊢
  refine code2_sound ok_mono _ _ _ ?_
  refine kmp ?_ h
  generalize Ok Tryd.prog = C
  try unfold en12
  as_aux_lemma => kernel_rfl

noncomputable def J12_2 (x0 x4 : LV) (g : LHeap)  (K : LV → LHeap → Prop) : Prop :=
  J12_3 x0 x4 (.str []) g  K
abbrev kj12_2  (K : LV → LHeap → Prop) : LSt → Prop := fun st => J12_2 (st.tm 0) (st.tm 4) st.g  K
theorem J12_2_ok  (K : LV → LHeap → Prop) (tm : Nat → LV) (g : LHeap) (h : J12_2 (tm 0) (tm 4) g  K) : codeL Tryd.prog (Ok Tryd.prog) (nd12 [1, 1, 1]) ⟨tm, g⟩ (en12 K) := by
  refine seq_i (a := nd12 [1, 1, 1, 0]) (b := nd12 [1, 1, 1, 1]) (k' := kj12_3  K) (by kernel_rfl) (fun st h => J12_3_ok  K st.tm st.g h) ?_
  try unfold J12_2 at h
  unfold kj12_3
  generalize @J12_3 = Q12_3 at h ⊢
  refine code2_sound ok_mono _ _ _ ?_
  refine kmp ?_ h
  generalize Ok Tryd.prog = C
  try unfold en12
  as_aux_lemma => kernel_rfl

noncomputable def J12_1 (x0 : LV) (g : LHeap)  (K : LV → LHeap → Prop) : Prop :=
  J12_2 x0 .nils g  K
abbrev kj12_1  (K : LV → LHeap → Prop) : LSt → Prop := fun st => J12_1 (st.tm 0) st.g  K
theorem J12_1_ok  (K : LV → LHeap → Prop) (tm : Nat → LV) (g : LHeap) (h : J12_1 (tm 0) g  K) : codeL Tryd.prog (Ok Tryd.prog) (nd12 [1, 1]) ⟨tm, g⟩ (en12 K) := by
  refine seq_i (a := nd12 [1, 1, 0]) (b := nd12 [1, 1, 1]) (k' := kj12_2  K) (by kernel_rfl) (fun st h => J12_2_ok  K st.tm st.g h) ?_
  try unfold J12_1 at h
  unfold kj12_2
  generalize @J12_2 = Q12_2 at h ⊢
  refine code2_sound ok_mono _ _ _ ?_
  refine kmp ?_ h
  generalize Ok Tryd.prog = C
  try unfold en12
  as_aux_lemma => kernel_rfl

noncomputable def J12_0 (x0 : LV) (g : LHeap)  (K : LV → LHeap → Prop) : Prop :=
  oK (builtinL Tryd.prog .len [9] [x0] g) fun t8 g =>
  vK (binL Tryd.prog .lss 3 true t8 (.int .i64 (1))) fun t9 =>
  gd t9 false g (fun K => K x0 g) fun t11 g =>
  gd t9 false g (fun K => oK (builtinL Tryd.prog .len [9] [t11] g) K) fun t12 g =>
  gd t9 false g (fun K => vK (binL Tryd.prog .gtr 3 true t12 (.int .i64 (64))) fun v => K v g) fun t13 g =>
  vK (pickL t9 (.bool true) t13) fun t14 =>
  gd t14 false g (fun K => K x0 g) fun t16 g =>
  gd t14 false g (fun K => vK (indexT Tryd.prog 9 t16 (.int .i64 (0))) fun v => K v g) fun t17 g =>
  gd t14 false g (fun K => vK (binL Tryd.prog .neq 5 true t17 (.int .u8 (47))) fun v => K v g) fun t18 g =>
  vK (pickL t14 (.bool true) t18) fun t19 =>
  ifB t19 (
  K (.tuple [.nils, (.int .i64 (190))]) g) (
  J12_1 x0 g  K)
abbrev kj12_0  (K : LV → LHeap → Prop) : LSt → Prop := fun st => J12_0 (st.tm 0) st.g  K
theorem J12_0_ok  (K : LV → LHeap → Prop) (tm : Nat → LV) (g : LHeap) (h : J12_0 (tm 0) g  K) : codeL Tryd.prog (Ok Tryd.prog) (nd12 [1]) ⟨tm, g⟩ (en12 K) := by
  refine seq_i (a := nd12 [1, 0]) (b := nd12 [1, 1]) (k' := kj12_1  K) (by kernel_rfl) (fun st h => J12_1_ok  K st.tm st.g h) ?_
  try unfold J12_0 at h
  unfold kj12_1
  generalize @J12_1 = Q12_1 at h ⊢
  refine code2_sound ok_mono _ _ _ ?_
  refine kmp ?_ h
  generalize Ok Tryd.prog = C
  try unfold en12
  as_aux_lemma => kernel_rfl

noncomputable def F12 (x0 : LV) (g : LHeap) (K : LV → LHeap → Prop) : Prop :=
  J12_0 x0 g  K
theorem ok12 {x0 : LV} {g : LHeap} {K : LV → LHeap → Prop} (h : g.Wf → (∀ v ∈ ([x0] : List LV), ∀ b ∈ v.objs, b < g.next) → F12 x0 g K) : Ok Tryd.prog 12 [x0] g K := by
  refine ok_fw Tryd.mixed Tryd.func12 (by kernel_rfl) (by kernel_rfl) (c := nd12 []) (by kernel_rfl) fun wf lt => ?_
  rw [← en12_eq]
  replace h := h wf lt
  generalize hs : startL _ = tm
  replace h : F12 (tm 0) g K := by rw [← hs]; exact h
  refine seq_i (a := nd12 [0]) (b := nd12 [1]) (k' := kj12_0  K) (by kernel_rfl) (fun st h => J12_0_ok  K st.tm st.g h) ?_
  try unfold F12 at h
  unfold kj12_0
  generalize @J12_0 = Q12_0 at h ⊢
  refine code2_sound ok_mono _ _ _ ?_
  refine kmp ?_ h
  generalize Ok Tryd.prog = C
  try unfold en12
  as_aux_lemma => kernel_rfl

/-! parapet/parapetlaw19.sameTexts (26 slots) -/
noncomputable def en14 (K : LV → LHeap → Prop) : LEx → LSt → Prop := fun e st => match e with
  | .exit _ => False
  | _ => K (st.tm 4) st.g
theorem en14_eq (K : LV → LHeap → Prop) : en14 K = endL Tryd.prog Tryd.f14 K := by
  funext e st
  cases e <;> kernel_rfl
noncomputable def nd14 (p : List Nat) : Code := subC p (bodyC Tryd.prog 14)
noncomputable def J14_2 (g : LHeap)  (K : LV → LHeap → Prop) : Prop :=
  K (.bool true) g
abbrev kj14_2  (K : LV → LHeap → Prop) : LSt → Prop := fun st => J14_2  st.g  K
theorem J14_2_ok  (K : LV → LHeap → Prop) (tm : Nat → LV) (g : LHeap) (h : J14_2  g  K) : codeL Tryd.prog (Ok Tryd.prog) (nd14 [1, 1, 1]) ⟨tm, g⟩ (en14 K) := by
  try unfold J14_2 at h
  refine code2_sound ok_mono _ _ _ ?_
  refine kmp ?_ h
  generalize Ok Tryd.prog = C
  try unfold en14
  as_aux_lemma => kernel_rfl

noncomputable def L14_4 (x0 x1 : LV) (x5 : LV) (g : LHeap) (N4 : LV → LHeap → Prop) (K : LV → LHeap → Prop) : Prop :=
  oK (builtinL Tryd.prog .len [22] [x0] g) fun t13 g =>
  vK (binL Tryd.prog .lss 3 false x5 t13) fun t14 =>
  ifB t14 (
  vK (ixAddrL none 1 x0 x5) fun t19 =>
  vK (loadV none t19 g) fun t20 =>
  vK (ixAddrL none 1 x1 x5) fun t23 =>
  vK (loadV none t23 g) fun t24 =>
  vK (binL Tryd.prog .neq 9 false t20 t24) fun t25 =>
  ifB t25 (
  K (.bool false) g) (
  vK (binL Tryd.prog .add 3 true x5 (.int .i64 (1))) fun t16 =>
  N4 t16 g)) (
  J14_2  g  K)
theorem L14_4_ok (R4 : LV × LV → LV → LHeap → Prop) (K : LV → LHeap → Prop) (tm : Nat → LV) (g : LHeap) (h : L14_4 (tm 0) (tm 1) (tm 5) g (fun s g => R4 ((tm 0), (tm 1)) s g) K) : codeL Tryd.prog (Ok Tryd.prog) (nd14 [1, 1, 0, 1, 0, 0]) ⟨tm, g⟩ (roundK (fun tm : Nat → LV => (tm 0, tm 1)) (fun tm : Nat → LV => tm 5) R4 (exitL 0 (thenL (kj14_2  K) (en14 K)))) := by
  try unfold L14_4 at h
  unfold kj14_2
  generalize @J14_2 = Q14_2 at h ⊢
  refine code2_sound ok_mono _ _ _ ?_
  refine kmp ?_ h
  generalize Ok Tryd.prog = C
  try unfold en14
  as_aux_lemma => kernel_rfl

noncomputable def J14_3 (x0 x1 x5 : LV) (g : LHeap)  (K : LV → LHeap → Prop) : Prop :=
  loopP (fun s g N => L14_4 x0 x1 s g N  K) x5 g
abbrev kj14_3  (K : LV → LHeap → Prop) : LSt → Prop := fun st => J14_3 (st.tm 0) (st.tm 1) (st.tm 5) st.g  K
theorem J14_3_ok  (K : LV → LHeap → Prop) (tm : Nat → LV) (g : LHeap) (h : J14_3 (tm 0) (tm 1) (tm 5) g  K) : codeL Tryd.prog (Ok Tryd.prog) (nd14 [1, 1, 0, 1]) ⟨tm, g⟩ (thenL (kj14_2  K) (en14 K)) := by
  refine block_i (b := nd14 [1, 1, 0, 1, 0]) (i := 0) (by kernel_rfl) ?_
  exact loop_glue (b := nd14 [1, 1, 0, 1, 0, 0]) (by kernel_rfl) (fun tm : Nat → LV => (tm 0, tm 1)) (fun tm : Nat → LV => tm 5) (fun a s g N => L14_4 a.1 a.2 s g N  K) (fun tm g R h => L14_4_ok R  K tm g h) tm g h

noncomputable def J14_1 (x0 x1 : LV) (g : LHeap)  (K : LV → LHeap → Prop) : Prop :=
  J14_3 x0 x1 (.int .i64 (0)) g  K
abbrev kj14_1  (K : LV → LHeap → Prop) : LSt → Prop := fun st => J14_1 (st.tm 0) (st.tm 1) st.g  K
theorem J14_1_ok  (K : LV → LHeap → Prop) (tm : Nat → LV) (g : LHeap) (h : J14_1 (tm 0) (tm 1) g  K) : codeL Tryd.prog (Ok Tryd.prog) (nd14 [1, 1]) ⟨tm, g⟩ (en14 K) := by
  refine seq_i (a := nd14 [1, 1, 0]) (b := nd14 [1, 1, 1]) (k' := kj14_2  K) (by kernel_rfl) (fun st h => J14_2_ok  K st.tm st.g h) ?_
  refine seq_i (a := nd14 [1, 1, 0, 0]) (b := nd14 [1, 1, 0, 1]) (k' := kj14_3  K) (by kernel_rfl) (fun st h => J14_3_ok  K st.tm st.g h) ?_
  try unfold J14_1 at h
  unfold kj14_3
  generalize @J14_3 = Q14_3 at h ⊢
  unfold kj14_2
  generalize @J14_2 = Q14_2 at h ⊢
  refine code2_sound ok_mono _ _ _ ?_
  refine kmp ?_ h
  generalize Ok Tryd.prog = C
  try unfold en14
  as_aux_lemma => kernel_rfl

noncomputable def J14_0 (x0 x1 : LV) (g : LHeap)  (K : LV → LHeap → Prop) : Prop :=
  oK (builtinL Tryd.prog .len [22] [x0] g) fun t7 g =>
  oK (builtinL Tryd.prog .len [22] [x1] g) fun t9 g =>
  vK (binL Tryd.prog .neq 3 false t7 t9) fun t10 =>
  ifB t10 (
  K (.bool false) g) (
  J14_1 x0 x1 g  K)
abbrev kj14_0  (K : LV → LHeap → Prop) : LSt → Prop := fun st => J14_0 (st.tm 0) (st.tm 1) st.g  K
theorem J14_0_ok  (K : LV → LHeap → Prop) (tm : Nat → LV) (g : LHeap) (h : J14_0 (tm 0) (tm 1) g  K) : codeL Tryd.prog (Ok Tryd.prog) (nd14 [1]) ⟨tm, g⟩ (en14 K) := by
  refine seq_i (a := nd14 [1, 0]) (b := nd14 [1, 1]) (k' := kj14_1  K) (by kernel_rfl) (fun st h => J14_1_ok  K st.tm st.g h) ?_
  try unfold J14_0 at h
  unfold kj14_1
  generalize @J14_1 = Q14_1 at h ⊢
  refine code2_sound ok_mono _ _ _ ?_
  refine kmp ?_ h
  generalize Ok Tryd.prog = C
  try unfold en14
  as_aux_lemma => kernel_rfl

noncomputable def F14 (x0 x1 : LV) (g : LHeap) (K : LV → LHeap → Prop) : Prop :=
  J14_0 x0 x1 g  K
theorem ok14 {x0 x1 : LV} {g : LHeap} {K : LV → LHeap → Prop} (h : g.Wf → (∀ v ∈ ([x0, x1] : List LV), ∀ b ∈ v.objs, b < g.next) → F14 x0 x1 g K) : Ok Tryd.prog 14 [x0, x1] g K := by
  refine ok_fw Tryd.mixed Tryd.func14 (by kernel_rfl) (by kernel_rfl) (c := nd14 []) (by kernel_rfl) fun wf lt => ?_
  rw [← en14_eq]
  replace h := h wf lt
  generalize hs : startL _ = tm
  replace h : F14 (tm 0) (tm 1) g K := by rw [← hs]; exact h
  refine seq_i (a := nd14 [0]) (b := nd14 [1]) (k' := kj14_0  K) (by kernel_rfl) (fun st h => J14_0_ok  K st.tm st.g h) ?_
  try unfold F14 at h
  unfold kj14_0
  generalize @J14_0 = Q14_0 at h ⊢
  refine code2_sound ok_mono _ _ _ ?_
  refine kmp ?_ h
  generalize Ok Tryd.prog = C
  try unfold en14
  as_aux_lemma => kernel_rfl

/-! strings.IndexByte (8 slots) -/
noncomputable def en53 (K : LV → LHeap → Prop) : LEx → LSt → Prop := fun e st => match e with
  | .exit _ => False
  | _ => K (st.tm 4) st.g
theorem en53_eq (K : LV → LHeap → Prop) : en53 K = endL Tryd.prog Tryd.f53 K := by
  funext e st
  cases e <;> kernel_rfl
noncomputable def nd53 (p : List Nat) : Code := subC p (bodyC Tryd.prog 53)
noncomputable def F53 (x0 x1 : LV) (g : LHeap) (K : LV → LHeap → Prop) : Prop :=
  Ok Tryd.prog 93 [x0, x1] g fun t7 g =>
  K t7 g
theorem ok53 {x0 x1 : LV} {g : LHeap} {K : LV → LHeap → Prop} (h : g.Wf → (∀ v ∈ ([x0, x1] : List LV), ∀ b ∈ v.objs, b < g.next) → F53 x0 x1 g K) : Ok Tryd.prog 53 [x0, x1] g K := by
  refine ok_fw Tryd.mixed Tryd.func53 (by kernel_rfl) (by kernel_rfl) (c := nd53 []) (by kernel_rfl) fun wf lt => ?_
  rw [← en53_eq]
  replace h := h wf lt
  generalize hs : startL _ = tm
  replace h : F53 (tm 0) (tm 1) g K := by rw [← hs]; exact h
  try unfold F53 at h
  refine code2_sound ok_mono _ _ _ ?_
  refine kmp ?_ h
  generalize Ok Tryd.prog = C
  try unfold en53
  as_aux_lemma => kernel_rfl

/-! strings.Split (8 slots) -/
noncomputable def en54 (K : LV → LHeap → Prop) : LEx → LSt → Prop := fun e st => match e with
  | .exit _ => False
  | _ => K (st.tm 4) st.g
theorem en54_eq (K : LV → LHeap → Prop) : en54 K = endL Tryd.prog Tryd.f54 K := by
  funext e st
  cases e <;> kernel_rfl
noncomputable def nd54 (p : List Nat) : Code := subC p (bodyC Tryd.prog 54)
noncomputable def F54 (x0 x1 : LV) (g : LHeap) (K : LV → LHeap → Prop) : Prop :=
  Ok Tryd.prog 94 [x0, x1, (.int .i64 (0)), (.int .i64 (-1))] g fun t7 g =>
  K t7 g
theorem ok54 {x0 x1 : LV} {g : LHeap} {K : LV → LHeap → Prop} (h : g.Wf → (∀ v ∈ ([x0, x1] : List LV), ∀ b ∈ v.objs, b < g.next) → F54 x0 x1 g K) : Ok Tryd.prog 54 [x0, x1] g K := by
  refine ok_fw Tryd.mixed Tryd.func54 (by kernel_rfl) (by kernel_rfl) (c := nd54 []) (by kernel_rfl) fun wf lt => ?_
  rw [← en54_eq]
  replace h := h wf lt
  generalize hs : startL _ = tm
  replace h : F54 (tm 0) (tm 1) g K := by rw [← hs]; exact h
  try unfold F54 at h
  refine code2_sound ok_mono _ _ _ ?_
  refine kmp ?_ h
  generalize Ok Tryd.prog = C
  try unfold en54
  as_aux_lemma => kernel_rfl

/-! internal/stringslite.IndexByte (8 slots) -/
noncomputable def en93 (K : LV → LHeap → Prop) : LEx → LSt → Prop := fun e st => match e with
  | .exit _ => False
  | _ => K (st.tm 4) st.g
theorem en93_eq (K : LV → LHeap → Prop) : en93 K = endL Tryd.prog Tryd.f93 K := by
  funext e st
  cases e <;> kernel_rfl
noncomputable def nd93 (p : List Nat) : Code := subC p (bodyC Tryd.prog 93)
noncomputable def F93 (x0 x1 : LV) (g : LHeap) (K : LV → LHeap → Prop) : Prop :=
  callV Tryd.prog (Ok Tryd.prog) (.func (.func 118) [] []) [x0, x1] g fun t7 g =>
  K t7 g
theorem ok93 {x0 x1 : LV} {g : LHeap} {K : LV → LHeap → Prop} (h : g.Wf → (∀ v ∈ ([x0, x1] : List LV), ∀ b ∈ v.objs, b < g.next) → F93 x0 x1 g K) : Ok Tryd.prog 93 [x0, x1] g K := by
  refine ok_fw Tryd.mixed Tryd.func93 (by kernel_rfl) (by kernel_rfl) (c := nd93 []) (by kernel_rfl) fun wf lt => ?_
  rw [← en93_eq]
  replace h := h wf lt
  generalize hs : startL _ = tm
  replace h : F93 (tm 0) (tm 1) g K := by rw [← hs]; exact h
  try unfold F93 at h
  refine code2_sound ok_mono _ _ _ ?_
  refine kmp ?_ h
  generalize Ok Tryd.prog = C
  try unfold en93
  as_aux_lemma => kernel_rfl

/-! strings.genSplit (66 slots) -/
noncomputable def en94 (K : LV → LHeap → Prop) : LEx → LSt → Prop := fun e st => match e with
  | .exit _ => False
  | _ => K (st.tm 8) st.g
theorem en94_eq (K : LV → LHeap → Prop) : en94 K = endL Tryd.prog Tryd.f94 K := by
  funext e st
  cases e <;> kernel_rfl
noncomputable def nd94 (p : List Nat) : Code := subC p (bodyC Tryd.prog 94)
noncomputable def J94_8 (x0 x9 x10 : LV) (g : LHeap)  (K : LV → LHeap → Prop) : Prop :=
  vK (ixAddrL none 1 x9 x10) fun t61 =>
  gK (storeV 1 t61 x0 g) fun g =>
  vK (binL Tryd.prog .add 3 true x10 (.int .i64 (1))) fun t64 =>
  vK (cutT Tryd.prog 22 x9 none (some t64) none (limL x9 g)) fun t65 =>
  K t65 g
abbrev kj94_8  (K : LV → LHeap → Prop) : LSt → Prop := fun st => J94_8 (st.tm 0) (st.tm 9) (st.tm 10) st.g  K
theorem J94_8_ok  (K : LV → LHeap → Prop) (tm : Nat → LV) (g : LHeap) (h : J94_8 (tm 0) (tm 9) (tm 10) g  K) : codeL Tryd.prog (Ok Tryd.prog) (nd94 [1, 1, 1, 1, 1, 1, 1, 1, 1]) ⟨tm, g⟩ (en94 K) := by
  try unfold J94_8 at h
  refine code2_sound ok_mono _ _ _ ?_
  refine kmp ?_ h
  generalize Ok Tryd.prog = C
  try unfold en94
  as_aux_lemma => kernel_rfl

noncomputable def L94_9 (x1 x2 x3 x9 : LV) (x0 x10 : LV) (g : LHeap) (N9 : LV × LV → LHeap → Prop) (K : LV → LHeap → Prop) : Prop :=
  vK (binL Tryd.prog .lss 3 false x10 x3) fun t36 =>
  ifB t36 (
  Ok Tryd.prog 121 [x0, x1] g fun t39 g =>
  vK (binL Tryd.prog .lss 3 true t39 (.int .i64 (0))) fun t41 =>
  ifB t41 (
  J94_8 x0 x9 x10 g  K) (
  vK (binL Tryd.prog .add 3 false t39 x2) fun t47 =>
  vK (cutT Tryd.prog 9 x0 none (some t47) none (limL x0 g)) fun t48 =>
  vK (ixAddrL none 1 x9 x10) fun t49 =>
  gK (storeV 1 t49 t48 g) fun g =>
  oK (builtinL Tryd.prog .len [9] [x1] g) fun t53 g =>
  vK (binL Tryd.prog .add 3 false t39 t53) fun t54 =>
  vK (cutT Tryd.prog 9 x0 (some t54) none none (limL x0 g)) fun t55 =>
  vK (binL Tryd.prog .add 3 true x10 (.int .i64 (1))) fun t57 =>
  N9 (t55, t57) g)) (
  J94_8 x0 x9 x10 g  K)
theorem L94_9_ok (R9 : LV × LV × LV × LV → LV × LV → LHeap → Prop) (K : LV → LHeap → Prop) (tm : Nat → LV) (g : LHeap) (h : L94_9 (tm 1) (tm 2) (tm 3) (tm 9) (tm 0) (tm 10) g (fun s g => R9 ((tm 1), (tm 2), (tm 3), (tm 9)) s g) K) : codeL Tryd.prog (Ok Tryd.prog) (nd94 [1, 1, 1, 1, 1, 1, 1, 1, 0, 0, 0]) ⟨tm, g⟩ (roundK (fun tm : Nat → LV => (tm 1, tm 2, tm 3, tm 9)) (fun tm : Nat → LV => (tm 0, tm 10)) R9 (exitL 0 (thenL (kj94_8  K) (en94 K)))) := by
  try unfold L94_9 at h
  unfold kj94_8
  generalize @J94_8 = Q94_8 at h ⊢
  refine code2_sound ok_mono _ _ _ ?_
  refine kmp ?_ h
  generalize Ok Tryd.prog = C
  try unfold en94
  as_aux_lemma => kernel_rfl

noncomputable def J94_7 (x0 x1 x2 x3 x9 x10 : LV) (g : LHeap)  (K : LV → LHeap → Prop) : Prop :=
  loopP (fun s g N => L94_9 x1 x2 x3 x9 s.1 s.2 g N  K) (x0, x10) g
abbrev kj94_7  (K : LV → LHeap → Prop) : LSt → Prop := fun st => J94_7 (st.tm 0) (st.tm 1) (st.tm 2) (st.tm 3) (st.tm 9) (st.tm 10) st.g  K
theorem J94_7_ok  (K : LV → LHeap → Prop) (tm : Nat → LV) (g : LHeap) (h : J94_7 (tm 0) (tm 1) (tm 2) (tm 3) (tm 9) (tm 10) g  K) : codeL Tryd.prog (Ok Tryd.prog) (nd94 [1, 1, 1, 1, 1, 1, 1, 1]) ⟨tm, g⟩ (en94 K) := by
  refine seq_i (a := nd94 [1, 1, 1, 1, 1, 1, 1, 1, 0]) (b := nd94 [1, 1, 1, 1, 1, 1, 1, 1, 1]) (k' := kj94_8  K) (by kernel_rfl) (fun st h => J94_8_ok  K st.tm st.g h) ?_
  refine block_i (b := nd94 [1, 1, 1, 1, 1, 1, 1, 1, 0, 0]) (i := 0) (by kernel_rfl) ?_
  exact loop_glue (b := nd94 [1, 1, 1, 1, 1, 1, 1, 1, 0, 0, 0]) (by kernel_rfl) (fun tm : Nat → LV => (tm 1, tm 2, tm 3, tm 9)) (fun tm : Nat → LV => (tm 0, tm 10)) (fun a s g N => L94_9 a.1 a.2.1 a.2.2.1 a.2.2.2 s.1 s.2 g N  K) (fun tm g R h => L94_9_ok R  K tm g h) tm g h

noncomputable def J94_6 (x0 x1 x2 x3 x9 : LV) (g : LHeap)  (K : LV → LHeap → Prop) : Prop :=
  J94_7 x0 x1 x2 x3 x9 (.int .i64 (0)) g  K
abbrev kj94_6  (K : LV → LHeap → Prop) : LSt → Prop := fun st => J94_6 (st.tm 0) (st.tm 1) (st.tm 2) (st.tm 3) (st.tm 9) st.g  K
theorem J94_6_ok  (K : LV → LHeap → Prop) (tm : Nat → LV) (g : LHeap) (h : J94_6 (tm 0) (tm 1) (tm 2) (tm 3) (tm 9) g  K) : codeL Tryd.prog (Ok Tryd.prog) (nd94 [1, 1, 1, 1, 1, 1, 1]) ⟨tm, g⟩ (en94 K) := by
  refine seq_i (a := nd94 [1, 1, 1, 1, 1, 1, 1, 0]) (b := nd94 [1, 1, 1, 1, 1, 1, 1, 1]) (k' := kj94_7  K) (by kernel_rfl) (fun st h => J94_7_ok  K st.tm st.g h) ?_
  try unfold J94_6 at h
  unfold kj94_7
  generalize @J94_7 = Q94_7 at h ⊢
  refine code2_sound ok_mono _ _ _ ?_
  refine kmp ?_ h
  generalize Ok Tryd.prog = C
  try unfold en94
  as_aux_lemma => kernel_rfl

noncomputable def J94_5 (x0 x1 x2 x3 x9 : LV) (g : LHeap)  (K : LV → LHeap → Prop) : Prop :=
  vK (binL Tryd.prog .sub 3 true x3 (.int .i64 (1))) fun t33 =>
  J94_6 x0 x1 x2 t33 x9 g  K
abbrev kj94_5  (K : LV → LHeap → Prop) : LSt → Prop := fun st => J94_5 (st.tm 0) (st.tm 1) (st.tm 2) (st.tm 3) (st.tm 9) st.g  K
theorem J94_5_ok  (K : LV → LHeap → Prop) (tm : Nat → LV) (g : LHeap) (h : J94_5 (tm 0) (tm 1) (tm 2) (tm 3) (tm 9) g  K) : codeL Tryd.prog (Ok Tryd.prog) (nd94 [1, 1, 1, 1, 1, 1]) ⟨tm, g⟩ (en94 K) := by
  refine seq_i (a := nd94 [1, 1, 1, 1, 1, 1, 0]) (b := nd94 [1, 1, 1, 1, 1, 1, 1]) (k' := kj94_6  K) (by kernel_rfl) (fun st h => J94_6_ok  K st.tm st.g h) ?_
  try unfold J94_5 at h
  unfold kj94_6
  generalize @J94_6 = Q94_6 at h ⊢
  refine code2_sound ok_mono _ _ _ ?_
  refine kmp ?_ h
  generalize Ok Tryd.prog = C
  try unfold en94
  as_aux_lemma => kernel_rfl

noncomputable def J94_4 (x0 x1 x2 x3 : LV) (g : LHeap)  (K : LV → LHeap → Prop) : Prop :=
  oK (makeSliceL Tryd.prog 22 x3 x3 g) fun t31 g =>
  J94_5 x0 x1 x2 x3 t31 g  K
abbrev kj94_4  (K : LV → LHeap → Prop) : LSt → Prop := fun st => J94_4 (st.tm 0) (st.tm 1) (st.tm 2) (st.tm 3) st.g  K
theorem J94_4_ok  (K : LV → LHeap → Prop) (tm : Nat → LV) (g : LHeap) (h : J94_4 (tm 0) (tm 1) (tm 2) (tm 3) g  K) : codeL Tryd.prog (Ok Tryd.prog) (nd94 [1, 1, 1, 1, 1]) ⟨tm, g⟩ (en94 K) := by
  refine seq_i (a := nd94 [1, 1, 1, 1, 1, 0]) (b := nd94 [1, 1, 1, 1, 1, 1]) (k' := kj94_5  K) (by kernel_rfl) (fun st h => J94_5_ok  K st.tm st.g h) ?_
  try unfold J94_4 at h
  unfold kj94_5
  generalize @J94_5 = Q94_5 at h ⊢
  refine code2_sound ok_mono _ _ _ ?_
  refine kmp ?_ h
  generalize Ok Tryd.prog = C
  try unfold en94
  as_aux_lemma => kernel_rfl

noncomputable def J94_3 (x0 x1 x2 x3 : LV) (g : LHeap)  (K : LV → LHeap → Prop) : Prop :=
  oK (builtinL Tryd.prog .len [9] [x0] g) fun t27 g =>
  vK (binL Tryd.prog .add 3 true t27 (.int .i64 (1))) fun t28 =>
  oK (builtinL Tryd.prog .min [3, 3] [x3, t28] g) fun t29 g =>
  J94_4 x0 x1 x2 t29 g  K
abbrev kj94_3  (K : LV → LHeap → Prop) : LSt → Prop := fun st => J94_3 (st.tm 0) (st.tm 1) (st.tm 2) (st.tm 3) st.g  K
theorem J94_3_ok  (K : LV → LHeap → Prop) (tm : Nat → LV) (g : LHeap) (h : J94_3 (tm 0) (tm 1) (tm 2) (tm 3) g  K) : codeL Tryd.prog (Ok Tryd.prog) (nd94 [1, 1, 1, 1]) ⟨tm, g⟩ (en94 K) := by
  refine seq_i (a := nd94 [1, 1, 1, 1, 0]) (b := nd94 [1, 1, 1, 1, 1]) (k' := kj94_4  K) (by kernel_rfl) (fun st h => J94_4_ok  K st.tm st.g h) ?_
  try unfold J94_3 at h
  unfold kj94_4
  generalize @J94_4 = Q94_4 at h ⊢
  refine code2_sound ok_mono _ _ _ ?_
  refine kmp ?_ h
  generalize Ok Tryd.prog = C
  try unfold en94
  as_aux_lemma => kernel_rfl

noncomputable def J94_2 (x0 x1 x2 x3 : LV) (g : LHeap)  (K : LV → LHeap → Prop) : Prop :=
  vK (binL Tryd.prog .lss 3 true x3 (.int .i64 (0))) fun t20 =>
  ifB t20 (
  Ok Tryd.prog 120 [x0, x1] g fun t23 g =>
  vK (binL Tryd.prog .add 3 true t23 (.int .i64 (1))) fun t24 =>
  J94_3 x0 x1 x2 t24 g  K) (
  J94_3 x0 x1 x2 x3 g  K)
abbrev kj94_2  (K : LV → LHeap → Prop) : LSt → Prop := fun st => J94_2 (st.tm 0) (st.tm 1) (st.tm 2) (st.tm 3) st.g  K
theorem J94_2_ok  (K : LV → LHeap → Prop) (tm : Nat → LV) (g : LHeap) (h : J94_2 (tm 0) (tm 1) (tm 2) (tm 3) g  K) : codeL Tryd.prog (Ok Tryd.prog) (nd94 [1, 1, 1]) ⟨tm, g⟩ (en94 K) := by
  refine seq_i (a := nd94 [1, 1, 1, 0]) (b := nd94 [1, 1, 1, 1]) (k' := kj94_3  K) (by kernel_rfl) (fun st h => J94_3_ok  K st.tm st.g h) ?_
  try unfold J94_2 at h
  unfold kj94_3
  generalize @J94_3 = Q94_3 at h ⊢
  refine code2_sound ok_mono _ _ _ ?_
  refine kmp ?_ h
  generalize Ok Tryd.prog = C
  try unfold en94
  as_aux_lemma => kernel_rfl

noncomputable def J94_1 (x0 x1 x2 x3 : LV) (g : LHeap)  (K : LV → LHeap → Prop) : Prop :=
  vK (binL Tryd.prog .eql 9 true x1 (.str [])) fun t15 =>
  ifB t15 (
  Ok Tryd.prog 119 [x0, x3] g fun t18 g =>
  K t18 g) (
  J94_2 x0 x1 x2 x3 g  K)
abbrev kj94_1  (K : LV → LHeap → Prop) : LSt → Prop := fun st => J94_1 (st.tm 0) (st.tm 1) (st.tm 2) (st.tm 3) st.g  K
theorem J94_1_ok  (K : LV → LHeap → Prop) (tm : Nat → LV) (g : LHeap) (h : J94_1 (tm 0) (tm 1) (tm 2) (tm 3) g  K) : codeL Tryd.prog (Ok Tryd.prog) (nd94 [1, 1]) ⟨tm, g⟩ (en94 K) := by
  refine seq_i (a := nd94 [1, 1, 0]) (b := nd94 [1, 1, 1]) (k' := kj94_2  K) (by kernel_rfl) (fun st h => J94_2_ok  K st.tm st.g h) ?_
  try unfold J94_1 at h
  unfold kj94_2
  generalize @J94_2 = Q94_2 at h ⊢
  refine code2_sound ok_mono _ _ _ ?_
  refine kmp ?_ h
  generalize Ok Tryd.prog = C
  try unfold en94
  as_aux_lemma => kernel_rfl

noncomputable def J94_0 (x0 x1 x2 x3 : LV) (g : LHeap)  (K : LV → LHeap → Prop) : Prop :=
  vK (binL Tryd.prog .eql 3 true x3 (.int .i64 (0))) fun t13 =>
  ifB t13 (
  K .nils g) (
  J94_1 x0 x1 x2 x3 g  K)
abbrev kj94_0  (K : LV → LHeap → Prop) : LSt → Prop := fun st => J94_0 (st.tm 0) (st.tm 1) (st.tm 2) (st.tm 3) st.g  K
theorem J94_0_ok  (K : LV → LHeap → Prop) (tm : Nat → LV) (g : LHeap) (h : J94_0 (tm 0) (tm 1) (tm 2) (tm 3) g  K) : codeL Tryd.prog (Ok Tryd.prog) (nd94 [1]) ⟨tm, g⟩ (en94 K) := by
  refine seq_i (a := nd94 [1, 0]) (b := nd94 [1, 1]) (k' := kj94_1  K) (by kernel_rfl) (fun st h => J94_1_ok  K st.tm st.g h) ?_
  try unfold J94_0 at h
  unfold kj94_1
  generalize @J94_1 = Q94_1 at h ⊢
  refine code2_sound ok_mono _ _ _ ?_
  refine kmp ?_ h
  generalize Ok Tryd.prog = C
  try unfold en94
  as_aux_lemma => kernel_rfl

noncomputable def F94 (x0 x1 x2 x3 : LV) (g : LHeap) (K : LV → LHeap → Prop) : Prop :=
  J94_0 x0 x1 x2 x3 g  K
theorem ok94 {x0 x1 x2 x3 : LV} {g : LHeap} {K : LV → LHeap → Prop} (h : g.Wf → (∀ v ∈ ([x0, x1, x2, x3] : List LV), ∀ b ∈ v.objs, b < g.next) → F94 x0 x1 x2 x3 g K) : Ok Tryd.prog 94 [x0, x1, x2, x3] g K := by
  refine ok_fw Tryd.mixed Tryd.func94 (by kernel_rfl) (by kernel_rfl) (c := nd94 []) (by kernel_rfl) fun wf lt => ?_
  rw [← en94_eq]
  replace h := h wf lt
  generalize hs : startL _ = tm
  replace h : F94 (tm 0) (tm 1) (tm 2) (tm 3) g K := by rw [← hs]; exact h
  refine seq_i (a := nd94 [0]) (b := nd94 [1]) (k' := kj94_0  K) (by kernel_rfl) (fun st h => J94_0_ok  K st.tm st.g h) ?_
  try unfold F94 at h
  unfold kj94_0
  generalize @J94_0 = Q94_0 at h ⊢
  refine code2_sound ok_mono _ _ _ ?_
  refine kmp ?_ h
  generalize Ok Tryd.prog = C
  try unfold en94
  as_aux_lemma => kernel_rfl

/-! strings.Count (34 slots) -/
noncomputable def en120 (K : LV → LHeap → Prop) : LEx → LSt → Prop := fun e st => match e with
  | .exit _ => False
  | _ => K (st.tm 4) st.g
theorem en120_eq (K : LV → LHeap → Prop) : en120 K = endL Tryd.prog Tryd.f120 K := by
  funext e st
  cases e <;> kernel_rfl
noncomputable def nd120 (p : List Nat) : Code := subC p (bodyC Tryd.prog 120)
noncomputable def L120_4 (x1 : LV) (x0 x5 : LV) (g : LHeap) (N4 : LV × LV → LHeap → Prop) (K : LV → LHeap → Prop) : Prop :=
  Ok Tryd.prog 121 [x0, x1] g fun t22 g =>
  vK (binL Tryd.prog .eql 3 true t22 (.int .i64 (-1))) fun t24 =>
  ifB t24 (
  K x5 g) (
  vK (binL Tryd.prog .add 3 true x5 (.int .i64 (1))) fun t27 =>
  oK (builtinL Tryd.prog .len [9] [x1] g) fun t31 g =>
  vK (binL Tryd.prog .add 3 false t22 t31) fun t32 =>
  vK (cutT Tryd.prog 9 x0 (some t32) none none (limL x0 g)) fun t33 =>
  N4 (t33, t27) g)
theorem L120_4_ok (R4 : LV → LV × LV → LHeap → Prop) (K : LV → LHeap → Prop) (tm : Nat → LV) (g : LHeap) (h : L120_4 (tm 1) (tm 0) (tm 5) g (fun s g => R4 (tm 1) s g) K) : codeL Tryd.prog (Ok Tryd.prog) (nd120 [1, 1, 1, 1, 0, 0]) ⟨tm, g⟩ (roundK (fun tm : Nat → LV => tm 1) (fun tm : Nat → LV => (tm 0, tm 5)) R4 (exitL 0 (en120 K))) := by
  try unfold L120_4 at h
  refine code2_sound ok_mono _ _ _ ?_
  refine kmp ?_ h
  generalize Ok Tryd.prog = C
  try unfold en120
  as_aux_lemma => kernel_rfl

noncomputable def J120_3 (x0 x1 x5 : LV) (g : LHeap)  (K : LV → LHeap → Prop) : Prop :=
  loopP (fun s g N => L120_4 x1 s.1 s.2 g N  K) (x0, x5) g
abbrev kj120_3  (K : LV → LHeap → Prop) : LSt → Prop := fun st => J120_3 (st.tm 0) (st.tm 1) (st.tm 5) st.g  K
theorem J120_3_ok  (K : LV → LHeap → Prop) (tm : Nat → LV) (g : LHeap) (h : J120_3 (tm 0) (tm 1) (tm 5) g  K) : codeL Tryd.prog (Ok Tryd.prog) (nd120 [1, 1, 1, 1]) ⟨tm, g⟩ (en120 K) := by
  refine block_i (b := nd120 [1, 1, 1, 1, 0]) (i := 0) (by kernel_rfl) ?_
  exact loop_glue (b := nd120 [1, 1, 1, 1, 0, 0]) (by kernel_rfl) (fun tm : Nat → LV => tm 1) (fun tm : Nat → LV => (tm 0, tm 5)) (fun a s g N => L120_4 a s.1 s.2 g N  K) (fun tm g R h => L120_4_ok R  K tm g h) tm g h

noncomputable def J120_2 (x0 x1 : LV) (g : LHeap)  (K : LV → LHeap → Prop) : Prop :=
  J120_3 x0 x1 (.int .i64 (0)) g  K
abbrev kj120_2  (K : LV → LHeap → Prop) : LSt → Prop := fun st => J120_2 (st.tm 0) (st.tm 1) st.g  K
theorem J120_2_ok  (K : LV → LHeap → Prop) (tm : Nat → LV) (g : LHeap) (h : J120_2 (tm 0) (tm 1) g  K) : codeL Tryd.prog (Ok Tryd.prog) (nd120 [1, 1, 1]) ⟨tm, g⟩ (en120 K) := by
  refine seq_i (a := nd120 [1, 1, 1, 0]) (b := nd120 [1, 1, 1, 1]) (k' := kj120_3  K) (by kernel_rfl) (fun st h => J120_3_ok  K st.tm st.g h) ?_
  try unfold J120_2 at h
  unfold kj120_3
  generalize @J120_3 = Q120_3 at h ⊢
  refine code2_sound ok_mono _ _ _ ?_
  refine kmp ?_ h
  generalize Ok Tryd.prog = C
  try unfold en120
  as_aux_lemma => kernel_rfl

noncomputable def J120_1 (x0 x1 : LV) (g : LHeap)  (K : LV → LHeap → Prop) : Prop :=
  oK (builtinL Tryd.prog .len [9] [x1] g) fun t14 g =>
  vK (binL Tryd.prog .eql 3 true t14 (.int .i64 (1))) fun t15 =>
  ifB t15 (
  vK (indexT Tryd.prog 9 x1 (.int .i64 (0))) fun t18 =>
  callV Tryd.prog (Ok Tryd.prog) (.func (.func 138) [] []) [x0, t18] g fun t19 g =>
  K t19 g) (
  J120_2 x0 x1 g  K)
abbrev kj120_1  (K : LV → LHeap → Prop) : LSt → Prop := fun st => J120_1 (st.tm 0) (st.tm 1) st.g  K
theorem J120_1_ok  (K : LV → LHeap → Prop) (tm : Nat → LV) (g : LHeap) (h : J120_1 (tm 0) (tm 1) g  K) : codeL Tryd.prog (Ok Tryd.prog) (nd120 [1, 1]) ⟨tm, g⟩ (en120 K) := by
  refine seq_i (a := nd120 [1, 1, 0]) (b := nd120 [1, 1, 1]) (k' := kj120_2  K) (by kernel_rfl) (fun st h => J120_2_ok  K st.tm st.g h) ?_
  try unfold J120_1 at h
  unfold kj120_2
  generalize @J120_2 = Q120_2 at h ⊢
  refine code2_sound ok_mono _ _ _ ?_
  refine kmp ?_ h
  generalize Ok Tryd.prog = C
  try unfold en120
  as_aux_lemma => kernel_rfl

noncomputable def J120_0 (x0 x1 : LV) (g : LHeap)  (K : LV → LHeap → Prop) : Prop :=
  oK (builtinL Tryd.prog .len [9] [x1] g) fun t8 g =>
  vK (binL Tryd.prog .eql 3 true t8 (.int .i64 (0))) fun t9 =>
  ifB t9 (
  Ok Tryd.prog 136 [x0] g fun t11 g =>
  vK (binL Tryd.prog .add 3 true t11 (.int .i64 (1))) fun t12 =>
  K t12 g) (
  J120_1 x0 x1 g  K)
abbrev kj120_0  (K : LV → LHeap → Prop) : LSt → Prop := fun st => J120_0 (st.tm 0) (st.tm 1) st.g  K
theorem J120_0_ok  (K : LV → LHeap → Prop) (tm : Nat → LV) (g : LHeap) (h : J120_0 (tm 0) (tm 1) g  K) : codeL Tryd.prog (Ok Tryd.prog) (nd120 [1]) ⟨tm, g⟩ (en120 K) := by
  refine seq_i (a := nd120 [1, 0]) (b := nd120 [1, 1]) (k' := kj120_1  K) (by kernel_rfl) (fun st h => J120_1_ok  K st.tm st.g h) ?_
  try unfold J120_0 at h
  unfold kj120_1
  generalize @J120_1 = Q120_1 at h ⊢
  refine code2_sound ok_mono _ _ _ ?_
  refine kmp ?_ h
  generalize Ok Tryd.prog = C
  try unfold en120
  as_aux_lemma => kernel_rfl

noncomputable def F120 (x0 x1 : LV) (g : LHeap) (K : LV → LHeap → Prop) : Prop :=
  J120_0 x0 x1 g  K
theorem ok120 {x0 x1 : LV} {g : LHeap} {K : LV → LHeap → Prop} (h : g.Wf → (∀ v ∈ ([x0, x1] : List LV), ∀ b ∈ v.objs, b < g.next) → F120 x0 x1 g K) : Ok Tryd.prog 120 [x0, x1] g K := by
  refine ok_fw Tryd.mixed Tryd.func120 (by kernel_rfl) (by kernel_rfl) (c := nd120 []) (by kernel_rfl) fun wf lt => ?_
  rw [← en120_eq]
  replace h := h wf lt
  generalize hs : startL _ = tm
  replace h : F120 (tm 0) (tm 1) g K := by rw [← hs]; exact h
  refine seq_i (a := nd120 [0]) (b := nd120 [1]) (k' := kj120_0  K) (by kernel_rfl) (fun st h => J120_0_ok  K st.tm st.g h) ?_
  try unfold F120 at h
  unfold kj120_0
  generalize @J120_0 = Q120_0 at h ⊢
  refine code2_sound ok_mono _ _ _ ?_
  refine kmp ?_ h
  generalize Ok Tryd.prog = C
  try unfold en120
  as_aux_lemma => kernel_rfl

end Go.Proofs.YthinkofjbabfbaaDoor
