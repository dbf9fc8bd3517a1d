/-
  Functions of the program, as texts of named values.
-/
import Derived.Test.YtoajcekgoalhjaaBf0
set_option linter.all false
namespace Go.Proofs.Ytoajcekgoalhjaa
open Go.ChangeShapes Go.WideShapes Go.ChangeAt Go.RowKit Go.Lm
set_option maxRecDepth 1000000
set_option linter.unusedVariables false
/-! parapet/phys.New (15 slots) -/
noncomputable def en20 (K : LV → LHeap → Prop) : LEx → LSt → Prop := fun e st => match e with
  | .exit _ => False
  | _ => K (.tuple [(st.tm 2), (st.tm 3)]) st.g
theorem en20_eq (K : LV → LHeap → Prop) : en20 K = endL Try.prog Try.f20 K := by
  funext e st
  cases e <;> kernel_rfl
noncomputable def nd20 (p : List Nat) : Code := subC p (bodyC Try.prog 20)
noncomputable def F20 (x0 : LV) (g : LHeap) (K : LV → LHeap → Prop) : Prop :=
  vK (binL Try.prog .lss 3 true x0 (.int .i64 (1))) fun t5 =>
  gd t5 false g (fun K => K x0 g) fun t7 g =>
  gd t5 false g (fun K => vK (binL Try.prog .gtr 3 true t7 (.int .i64 (4096))) fun v => K v g) fun t8 g =>
  vK (pickL t5 (.bool true) t8) fun t9 =>
  ifB t9 (
  K (.tuple [.nilp, (.int .i64 (1))]) g) (
  vK (binL Try.prog .mul 3 true x0 (.int .i64 (256))) fun t11 =>
  oK (makeSliceL Try.prog 33 t11 t11 g) fun t12 g =>
  vK (buildL Try.prog 100 [(0, t12)]) fun t13 =>
  oK (newL t13 g) fun t14 g =>
  K (.tuple [t14, (.int .i64 (0))]) g)
theorem ok20 {x0 : LV} {g : LHeap} {K : LV → LHeap → Prop} (h : g.Wf → (∀ v ∈ ([x0] : List LV), ∀ b ∈ v.objs, b < g.next) → F20 x0 g K) : Ok Try.prog 20 [x0] g K := by
  refine ok_fw Try.mixed Try.func20 (by kernel_rfl) (by kernel_rfl) (c := nd20 []) (by kernel_rfl) fun wf lt => ?_
  rw [← en20_eq]
  replace h := h wf lt
  generalize hs : startL _ = tm
  replace h : F20 (tm 0) g K := by rw [← hs]; exact h
  try unfold F20 at h
  refine code2_sound ok_mono _ _ _ ?_
  refine kmp ?_ h
  generalize Ok Try.prog = C
  try unfold en20
  as_aux_lemma => kernel_rfl

/-! (*parapet/phys.Mem).Frames (11 slots) -/
noncomputable def en52 (K : LV → LHeap → Prop) : LEx → LSt → Prop := fun e st => match e with
  | .exit _ => False
  | _ => K (st.tm 2) st.g
theorem en52_eq (K : LV → LHeap → Prop) : en52 K = endL Try.prog Try.f52 K := by
  funext e st
  cases e <;> kernel_rfl
noncomputable def nd52 (p : List Nat) : Code := subC p (bodyC Try.prog 52)
noncomputable def F52 (x0 : LV) (g : LHeap) (K : LV → LHeap → Prop) : Prop :=
  vK (binL Try.prog .eql 44 true x0 .nilp) fun t4 =>
  ifB t4 (
  K (.int .i64 (0)) g) (
  vK (nilCheckL x0) fun t6 =>
  vK (fieldAddrL 0 t6) fun t7 =>
  vK (loadV none t7 g) fun t8 =>
  oK (builtinL Try.prog .len [33] [t8] g) fun t9 g =>
  vK (binL Try.prog .quo 3 true t9 (.int .i64 (256))) fun t10 =>
  K t10 g)
theorem ok52 {x0 : LV} {g : LHeap} {K : LV → LHeap → Prop} (h : g.Wf → (∀ v ∈ ([x0] : List LV), ∀ b ∈ v.objs, b < g.next) → F52 x0 g K) : Ok Try.prog 52 [x0] g K := by
  refine ok_fw Try.mixed Try.func52 (by kernel_rfl) (by kernel_rfl) (c := nd52 []) (by kernel_rfl) fun wf lt => ?_
  rw [← en52_eq]
  replace h := h wf lt
  generalize hs : startL _ = tm
  replace h : F52 (tm 0) g K := by rw [← hs]; exact h
  try unfold F52 at h
  refine code2_sound ok_mono _ _ _ ?_
  refine kmp ?_ h
  generalize Ok Try.prog = C
  try unfold en52
  as_aux_lemma => kernel_rfl

/-! (*parapet/phys.Mem).frame (24 slots) -/
noncomputable def en81 (K : LV → LHeap → Prop) : LEx → LSt → Prop := fun e st => match e with
  | .exit _ => False
  | _ => K (.tuple [(st.tm 4), (st.tm 5)]) st.g
theorem en81_eq (K : LV → LHeap → Prop) : en81 K = endL Try.prog Try.f81 K := by
  funext e st
  cases e <;> kernel_rfl
noncomputable def nd81 (p : List Nat) : Code := subC p (bodyC Try.prog 81)
noncomputable def F81 (x0 x1 : LV) (g : LHeap) (K : LV → LHeap → Prop) : Prop :=
  vK (binL Try.prog .neq 44 true x0 .nilp) fun t7 =>
  gd t7 true g (fun K => K x1 g) fun t9 g =>
  gd t7 true g (fun K => vK (binL Try.prog .lss 3 true t9 (.int .i64 (0))) fun v => K v g) fun t10 g =>
  gd t7 true g (fun K => K t10 g) fun t11 g =>
  gd t11 false g (fun K => K x1 g) fun t12 g =>
  gd t11 false g (fun K => K x0 g) fun t13 g =>
  gd t11 false g (fun K => Ok Try.prog 52 [t13] g K) fun t14 g =>
  gd t11 false g (fun K => vK (binL Try.prog .geq 3 false t12 t14) fun v => K v g) fun t15 g =>
  gd t7 true g (fun K => vK (pickL t11 (.bool true) t15) fun v => K v g) fun t16 g =>
  vK (pickL t7 t16 (.bool false)) fun t17 =>
  ifB t17 (
  K (.tuple [.nils, (.int .i64 (10))]) g) (
  vK (binL Try.prog .mul 3 true x1 (.int .i64 (256))) fun t20 =>
  Ok Try.prog 82 [x0, t20, (.int .i64 (256))] g fun t21 g =>
  vK (extractL t21 0) fun t22 =>
  vK (extractL t21 1) fun t23 =>
  K (.tuple [t22, t23]) g)
theorem ok81 {x0 x1 : LV} {g : LHeap} {K : LV → LHeap → Prop} (h : g.Wf → (∀ v ∈ ([x0, x1] : List LV), ∀ b ∈ v.objs, b < g.next) → F81 x0 x1 g K) : Ok Try.prog 81 [x0, x1] g K := by
  refine ok_fw Try.mixed Try.func81 (by kernel_rfl) (by kernel_rfl) (c := nd81 []) (by kernel_rfl) fun wf lt => ?_
  rw [← en81_eq]
  replace h := h wf lt
  generalize hs : startL _ = tm
  replace h : F81 (tm 0) (tm 1) g K := by rw [← hs]; exact h
  try unfold F81 at h
  refine code2_sound ok_mono _ _ _ ?_
  refine kmp ?_ h
  generalize Ok Try.prog = C
  try unfold en81
  as_aux_lemma => kernel_rfl

/-! (*parapet/phys.Mem).span (48 slots) -/
noncomputable def en82 (K : LV → LHeap → Prop) : LEx → LSt → Prop := fun e st => match e with
  | .exit _ => False
  | _ => K (.tuple [(st.tm 6), (st.tm 7)]) st.g
theorem en82_eq (K : LV → LHeap → Prop) : en82 K = endL Try.prog Try.f82 K := by
  funext e st
  cases e <;> kernel_rfl
noncomputable def nd82 (p : List Nat) : Code := subC p (bodyC Try.prog 82)
noncomputable def F82 (x0 x1 x2 : LV) (g : LHeap) (K : LV → LHeap → Prop) : Prop :=
  vK (binL Try.prog .eql 44 true x0 .nilp) fun t9 =>
  ifB t9 (
  K (.tuple [.nils, (.int .i64 (6))]) g) (
  vK (binL Try.prog .lss 3 true x2 (.int .i64 (0))) fun t11 =>
  gd t11 false g (fun K => K x1 g) fun t13 g =>
  gd t11 false g (fun K => vK (binL Try.prog .lss 3 true t13 (.int .i64 (0))) fun v => K v g) fun t14 g =>
  vK (pickL t11 (.bool true) t14) fun t15 =>
  gd t15 false g (fun K => K x1 g) fun t17 g =>
  gd t15 false g (fun K => K x0 g) fun t18 g =>
  gd t15 false g (fun K => vK (nilCheckL t18) fun v => K v g) fun t19 g =>
  gd t15 false g (fun K => vK (fieldAddrL 0 t19) fun v => K v g) fun t20 g =>
  gd t15 false g (fun K => vK (loadV none t20 g) fun v => K v g) fun t21 g =>
  gd t15 false g (fun K => oK (builtinL Try.prog .len [33] [t21] g) K) fun t22 g =>
  gd t15 false g (fun K => vK (binL Try.prog .gtr 3 false t17 t22) fun v => K v g) fun t23 g =>
  vK (pickL t15 (.bool true) t23) fun t24 =>
  gd t24 false g (fun K => K x2 g) fun t26 g =>
  gd t24 false g (fun K => K x0 g) fun t27 g =>
  gd t24 false g (fun K => vK (nilCheckL t27) fun v => K v g) fun t28 g =>
  gd t24 false g (fun K => vK (fieldAddrL 0 t28) fun v => K v g) fun t29 g =>
  gd t24 false g (fun K => vK (loadV none t29 g) fun v => K v g) fun t30 g =>
  gd t24 false g (fun K => oK (builtinL Try.prog .len [33] [t30] g) K) fun t31 g =>
  gd t24 false g (fun K => K x1 g) fun t32 g =>
  gd t24 false g (fun K => vK (binL Try.prog .sub 3 false t31 t32) fun v => K v g) fun t33 g =>
  gd t24 false g (fun K => vK (binL Try.prog .gtr 3 false t26 t33) fun v => K v g) fun t34 g =>
  vK (pickL t24 (.bool true) t34) fun t35 =>
  ifB t35 (
  K (.tuple [.nils, (.int .i64 (10))]) g) (
  vK (nilCheckL x0) fun t37 =>
  vK (fieldAddrL 0 t37) fun t38 =>
  vK (loadV none t38 g) fun t39 =>
  vK (binL Try.prog .add 3 false x1 x2) fun t43 =>
  vK (binL Try.prog .add 3 false x1 x2) fun t46 =>
  vK (cutT Try.prog 33 t39 (some x1) (some t43) (some t46) (limL t39 g)) fun t47 =>
  K (.tuple [t47, (.int .i64 (0))]) g))
theorem ok82 {x0 x1 x2 : LV} {g : LHeap} {K : LV → LHeap → Prop} (h : g.Wf → (∀ v ∈ ([x0, x1, x2] : List LV), ∀ b ∈ v.objs, b < g.next) → F82 x0 x1 x2 g K) : Ok Try.prog 82 [x0, x1, x2] g K := by
  refine ok_fw Try.mixed Try.func82 (by kernel_rfl) (by kernel_rfl) (c := nd82 []) (by kernel_rfl) fun wf lt => ?_
  rw [← en82_eq]
  replace h := h wf lt
  generalize hs : startL _ = tm
  replace h : F82 (tm 0) (tm 1) (tm 2) g K := by rw [← hs]; exact h
  try unfold F82 at h
  refine code2_sound ok_mono _ _ _ ?_
  refine kmp ?_ h
  generalize Ok Try.prog = C
  try unfold en82
  as_aux_lemma => kernel_rfl

/-! (*parapet/phys.Mem).word (18 slots) -/
noncomputable def en58 (K : LV → LHeap → Prop) : LEx → LSt → Prop := fun e st => match e with
  | .exit _ => False
  | _ => K (.tuple [(st.tm 4), (st.tm 5)]) st.g
theorem en58_eq (K : LV → LHeap → Prop) : en58 K = endL Try.prog Try.f58 K := by
  funext e st
  cases e <;> kernel_rfl
noncomputable def nd58 (p : List Nat) : Code := subC p (bodyC Try.prog 58)
noncomputable def F58 (x0 x1 : LV) (g : LHeap) (K : LV → LHeap → Prop) : Prop :=
  vK (binL Try.prog .neq 44 true x0 .nilp) fun t7 =>
  gd t7 true g (fun K => K x1 g) fun t9 g =>
  gd t7 true g (fun K => vK (binL Try.prog .rem 3 true t9 (.int .i64 (4))) fun v => K v g) fun t10 g =>
  gd t7 true g (fun K => vK (binL Try.prog .neq 3 true t10 (.int .i64 (0))) fun v => K v g) fun t11 g =>
  vK (pickL t7 t11 (.bool false)) fun t12 =>
  ifB t12 (
  K (.tuple [.nils, (.int .i64 (10))]) g) (
  Ok Try.prog 82 [x0, x1, (.int .i64 (4))] g fun t15 g =>
  vK (extractL t15 0) fun t16 =>
  vK (extractL t15 1) fun t17 =>
  K (.tuple [t16, t17]) g)
theorem ok58 {x0 x1 : LV} {g : LHeap} {K : LV → LHeap → Prop} (h : g.Wf → (∀ v ∈ ([x0, x1] : List LV), ∀ b ∈ v.objs, b < g.next) → F58 x0 x1 g K) : Ok Try.prog 58 [x0, x1] g K := by
  refine ok_fw Try.mixed Try.func58 (by kernel_rfl) (by kernel_rfl) (c := nd58 []) (by kernel_rfl) fun wf lt => ?_
  rw [← en58_eq]
  replace h := h wf lt
  generalize hs : startL _ = tm
  replace h : F58 (tm 0) (tm 1) g K := by rw [← hs]; exact h
  try unfold F58 at h
  refine code2_sound ok_mono _ _ _ ?_
  refine kmp ?_ h
  generalize Ok Try.prog = C
  try unfold en58
  as_aux_lemma => kernel_rfl

/-! (*parapet/phys.Mem).Zero (15 slots) -/
noncomputable def en53 (K : LV → LHeap → Prop) : LEx → LSt → Prop := fun e st => match e with
  | .exit _ => False
  | _ => K (st.tm 4) st.g
theorem en53_eq (K : LV → LHeap → Prop) : en53 K = endL Try.prog Try.f53 K := by
  funext e st
  cases e <;> kernel_rfl
noncomputable def nd53 (p : List Nat) : Code := subC p (bodyC Try.prog 53)
noncomputable def F53 (x0 x1 : LV) (g : LHeap) (K : LV → LHeap → Prop) : Prop :=
  Ok Try.prog 81 [x0, x1] g fun t10 g =>
  vK (extractL t10 0) fun t11 =>
  vK (extractL t10 1) fun t12 =>
  oK (builtinL Try.prog .clear [33] [t11] g) fun u g =>
  K t12 g
theorem ok53 {x0 x1 : LV} {g : LHeap} {K : LV → LHeap → Prop} (h : g.Wf → (∀ v ∈ ([x0, x1] : List LV), ∀ b ∈ v.objs, b < g.next) → F53 x0 x1 g K) : Ok Try.prog 53 [x0, x1] g K := by
  refine ok_fw Try.mixed Try.func53 (by kernel_rfl) (by kernel_rfl) (c := nd53 []) (by kernel_rfl) fun wf lt => ?_
  rw [← en53_eq]
  replace h := h wf lt
  generalize hs : startL _ = tm
  replace h : F53 (tm 0) (tm 1) g K := by rw [← hs]; exact h
  try unfold F53 at h
  refine code2_sound ok_mono _ _ _ ?_
  refine kmp ?_ h
  generalize Ok Try.prog = C
  try unfold en53
  as_aux_lemma => kernel_rfl

/-! (*parapet/phys.Mem).Frame (17 slots) -/
noncomputable def en57 (K : LV → LHeap → Prop) : LEx → LSt → Prop := fun e st => match e with
  | .exit _ => False
  | _ => K (.tuple [(st.tm 4), (st.tm 5)]) st.g
theorem en57_eq (K : LV → LHeap → Prop) : en57 K = endL Try.prog Try.f57 K := by
  funext e st
  cases e <;> kernel_rfl
noncomputable def nd57 (p : List Nat) : Code := subC p (bodyC Try.prog 57)
noncomputable def F57 (x0 x1 : LV) (g : LHeap) (K : LV → LHeap → Prop) : Prop :=
  Ok Try.prog 81 [x0, x1] g fun t11 g =>
  vK (extractL t11 0) fun t12 =>
  vK (extractL t11 1) fun t13 =>
  Ok Try.prog 46 [t12] g fun t15 g =>
  K (.tuple [t15, t13]) g
theorem ok57 {x0 x1 : LV} {g : LHeap} {K : LV → LHeap → Prop} (h : g.Wf → (∀ v ∈ ([x0, x1] : List LV), ∀ b ∈ v.objs, b < g.next) → F57 x0 x1 g K) : Ok Try.prog 57 [x0, x1] g K := by
  refine ok_fw Try.mixed Try.func57 (by kernel_rfl) (by kernel_rfl) (c := nd57 []) (by kernel_rfl) fun wf lt => ?_
  rw [← en57_eq]
  replace h := h wf lt
  generalize hs : startL _ = tm
  replace h : F57 (tm 0) (tm 1) g K := by rw [← hs]; exact h
  try unfold F57 at h
  refine code2_sound ok_mono _ _ _ ?_
  refine kmp ?_ h
  generalize Ok Try.prog = C
  try unfold en57
  as_aux_lemma => kernel_rfl

/-! (*parapet/phys.Mem).Store32 (33 slots) -/
noncomputable def en24 (K : LV → LHeap → Prop) : LEx → LSt → Prop := fun e st => match e with
  | .exit _ => False
  | _ => K (st.tm 6) st.g
theorem en24_eq (K : LV → LHeap → Prop) : en24 K = endL Try.prog Try.f24 K := by
  funext e st
  cases e <;> kernel_rfl
noncomputable def nd24 (p : List Nat) : Code := subC p (bodyC Try.prog 24)
noncomputable def J24_3 (g : LHeap)  (K : LV → LHeap → Prop) : Prop :=
  K (.int .i64 (0)) g
abbrev kj24_3  (K : LV → LHeap → Prop) : LSt → Prop := fun st => J24_3  st.g  K
theorem J24_3_ok  (K : LV → LHeap → Prop) (tm : Nat → LV) (g : LHeap) (h : J24_3  g  K) : codeL Try.prog (Ok Try.prog) (nd24 [1, 1, 1, 1]) ⟨tm, g⟩ (en24 K) := by
  try unfold J24_3 at h
  refine code2_sound ok_mono _ _ _ ?_
  refine kmp ?_ h
  generalize Ok Try.prog = C
  try unfold en24
  as_aux_lemma => kernel_rfl

noncomputable def L24_5 (x2 x7 x20 : LV) (x21 : LV) (g : LHeap) (N5 : LV → LHeap → Prop) (K : LV → LHeap → Prop) : Prop :=
  vK (binL Try.prog .lss 3 false x21 x20) fun t22 =>
  ifB t22 (
  vK (binL Try.prog .mul 3 true (.int .i64 (8)) x21) fun t28 =>
  vK (binL Try.prog .shr 57 false x2 t28) fun t29 =>
  oK (convL Try.prog 57 5 t29 g) fun t30 g =>
  vK (ixAddrL none 1 x7 x21) fun t31 =>
  gK (storeV 1 t31 t30 g) fun g =>
  vK (binL Try.prog .add 3 true x21 (.int .i64 (1))) fun t32 =>
  N5 t32 g) (
  J24_3  g  K)
theorem L24_5_ok (R5 : LV × LV × LV → LV → LHeap → Prop) (K : LV → LHeap → Prop) (tm : Nat → LV) (g : LHeap) (h : L24_5 (tm 2) (tm 7) (tm 20) (tm 21) g (fun s g => R5 ((tm 2), (tm 7), (tm 20)) s g) K) : codeL Try.prog (Ok Try.prog) (nd24 [1, 1, 1, 0, 1, 0, 0]) ⟨tm, g⟩ (roundK (fun tm : Nat → LV => (tm 2, tm 7, tm 20)) (fun tm : Nat → LV => tm 21) R5 (exitL 0 (thenL (kj24_3  K) (en24 K)))) := by
  try unfold L24_5 at h
  unfold kj24_3
  generalize @J24_3 = Q24_3 at h ⊢
  refine code2_sound ok_mono _ _ _ ?_
  refine kmp ?_ h
  generalize Ok Try.prog = C
  try unfold en24
  as_aux_lemma => kernel_rfl

noncomputable def J24_4 (x2 x7 x20 x21 : LV) (g : LHeap)  (K : LV → LHeap → Prop) : Prop :=
  loopP (fun s g N => L24_5 x2 x7 x20 s g N  K) x21 g
abbrev kj24_4  (K : LV → LHeap → Prop) : LSt → Prop := fun st => J24_4 (st.tm 2) (st.tm 7) (st.tm 20) (st.tm 21) st.g  K
theorem J24_4_ok  (K : LV → LHeap → Prop) (tm : Nat → LV) (g : LHeap) (h : J24_4 (tm 2) (tm 7) (tm 20) (tm 21) g  K) : codeL Try.prog (Ok Try.prog) (nd24 [1, 1, 1, 0, 1]) ⟨tm, g⟩ (thenL (kj24_3  K) (en24 K)) := by
  refine block_i (b := nd24 [1, 1, 1, 0, 1, 0]) (i := 0) (by kernel_rfl) ?_
  exact loop_glue (b := nd24 [1, 1, 1, 0, 1, 0, 0]) (by kernel_rfl) (fun tm : Nat → LV => (tm 2, tm 7, tm 20)) (fun tm : Nat → LV => tm 21) (fun a s g N => L24_5 a.1 a.2.1 a.2.2 s g N  K) (fun tm g R h => L24_5_ok R  K tm g h) tm g h

noncomputable def J24_2 (x2 x7 : LV) (g : LHeap)  (K : LV → LHeap → Prop) : Prop :=
  oK (builtinL Try.prog .len [33] [x7] g) fun t20 g =>
  J24_4 x2 x7 t20 (.int .i64 (0)) g  K
abbrev kj24_2  (K : LV → LHeap → Prop) : LSt → Prop := fun st => J24_2 (st.tm 2) (st.tm 7) st.g  K
theorem J24_2_ok  (K : LV → LHeap → Prop) (tm : Nat → LV) (g : LHeap) (h : J24_2 (tm 2) (tm 7) g  K) : codeL Try.prog (Ok Try.prog) (nd24 [1, 1, 1]) ⟨tm, g⟩ (en24 K) := by
  refine seq_i (a := nd24 [1, 1, 1, 0]) (b := nd24 [1, 1, 1, 1]) (k' := kj24_3  K) (by kernel_rfl) (fun st h => J24_3_ok  K st.tm st.g h) ?_
  refine seq_i (a := nd24 [1, 1, 1, 0, 0]) (b := nd24 [1, 1, 1, 0, 1]) (k' := kj24_4  K) (by kernel_rfl) (fun st h => J24_4_ok  K st.tm st.g h) ?_
  try unfold J24_2 at h
  unfold kj24_4
  generalize @J24_4 = Q24_4 at h ⊢
  unfold kj24_3
  generalize @J24_3 = Q24_3 at h ⊢
  refine code2_sound ok_mono _ _ _ ?_
  refine kmp ?_ h
  generalize Ok Try.prog = C
  try unfold en24
  as_aux_lemma => kernel_rfl

noncomputable def J24_1 (x2 x7 x8 : LV) (g : LHeap)  (K : LV → LHeap → Prop) : Prop :=
  vK (binL Try.prog .neq 24 true x8 (.int .i64 (0))) fun t17 =>
  ifB t17 (
  K x8 g) (
  J24_2 x2 x7 g  K)
abbrev kj24_1  (K : LV → LHeap → Prop) : LSt → Prop := fun st => J24_1 (st.tm 2) (st.tm 7) (st.tm 8) st.g  K
theorem J24_1_ok  (K : LV → LHeap → Prop) (tm : Nat → LV) (g : LHeap) (h : J24_1 (tm 2) (tm 7) (tm 8) g  K) : codeL Try.prog (Ok Try.prog) (nd24 [1, 1]) ⟨tm, g⟩ (en24 K) := by
  refine seq_i (a := nd24 [1, 1, 0]) (b := nd24 [1, 1, 1]) (k' := kj24_2  K) (by kernel_rfl) (fun st h => J24_2_ok  K st.tm st.g h) ?_
  try unfold J24_1 at h
  unfold kj24_2
  generalize @J24_2 = Q24_2 at h ⊢
  refine code2_sound ok_mono _ _ _ ?_
  refine kmp ?_ h
  generalize Ok Try.prog = C
  try unfold en24
  as_aux_lemma => kernel_rfl

noncomputable def J24_0 (x0 x1 x2 : LV) (g : LHeap)  (K : LV → LHeap → Prop) : Prop :=
  Ok Try.prog 58 [x0, x1] g fun t13 g =>
  vK (extractL t13 0) fun t14 =>
  vK (extractL t13 1) fun t15 =>
  J24_1 x2 t14 t15 g  K
abbrev kj24_0  (K : LV → LHeap → Prop) : LSt → Prop := fun st => J24_0 (st.tm 0) (st.tm 1) (st.tm 2) st.g  K
theorem J24_0_ok  (K : LV → LHeap → Prop) (tm : Nat → LV) (g : LHeap) (h : J24_0 (tm 0) (tm 1) (tm 2) g  K) : codeL Try.prog (Ok Try.prog) (nd24 [1]) ⟨tm, g⟩ (en24 K) := by
  refine seq_i (a := nd24 [1, 0]) (b := nd24 [1, 1]) (k' := kj24_1  K) (by kernel_rfl) (fun st h => J24_1_ok  K st.tm st.g h) ?_
  try unfold J24_0 at h
  unfold kj24_1
  generalize @J24_1 = Q24_1 at h ⊢
  refine code2_sound ok_mono _ _ _ ?_
  refine kmp ?_ h
  generalize Ok Try.prog = C
  try unfold en24
  as_aux_lemma => kernel_rfl

noncomputable def F24 (x0 x1 x2 : LV) (g : LHeap) (K : LV → LHeap → Prop) : Prop :=
  J24_0 x0 x1 x2 g  K
theorem ok24 {x0 x1 x2 : LV} {g : LHeap} {K : LV → LHeap → Prop} (h : g.Wf → (∀ v ∈ ([x0, x1, x2] : List LV), ∀ b ∈ v.objs, b < g.next) → F24 x0 x1 x2 g K) : Ok Try.prog 24 [x0, x1, x2] g K := by
  refine ok_fw Try.mixed Try.func24 (by kernel_rfl) (by kernel_rfl) (c := nd24 []) (by kernel_rfl) fun wf lt => ?_
  rw [← en24_eq]
  replace h := h wf lt
  generalize hs : startL _ = tm
  replace h : F24 (tm 0) (tm 1) (tm 2) g K := by rw [← hs]; exact h
  refine seq_i (a := nd24 [0]) (b := nd24 [1]) (k' := kj24_0  K) (by kernel_rfl) (fun st h => J24_0_ok  K st.tm st.g h) ?_
  try unfold F24 at h
  unfold kj24_0
  generalize @J24_0 = Q24_0 at h ⊢
  refine code2_sound ok_mono _ _ _ ?_
  refine kmp ?_ h
  generalize Ok Try.prog = C
  try unfold en24
  as_aux_lemma => kernel_rfl

/-! slices.Clone[[]byte,byte] (8 slots) -/
noncomputable def en46 (K : LV → LHeap → Prop) : LEx → LSt → Prop := fun e st => match e with
  | .exit _ => False
  | _ => K (st.tm 2) st.g
theorem en46_eq (K : LV → LHeap → Prop) : en46 K = endL Try.prog Try.f46 K := by
  funext e st
  cases e <;> kernel_rfl
noncomputable def nd46 (p : List Nat) : Code := subC p (bodyC Try.prog 46)
noncomputable def F46 (x0 : LV) (g : LHeap) (K : LV → LHeap → Prop) : Prop :=
  vK (binL Try.prog .eql 33 true x0 .nils) fun t4 =>
  ifB t4 (
  K .nils g) (
  oK (buildSliceL Try.prog 33 0 [] g) fun t5 g =>
  oK (builtinL Try.prog .append [33, 33] [t5, x0] g) fun t7 g =>
  K t7 g)
theorem ok46 {x0 : LV} {g : LHeap} {K : LV → LHeap → Prop} (h : g.Wf → (∀ v ∈ ([x0] : List LV), ∀ b ∈ v.objs, b < g.next) → F46 x0 g K) : Ok Try.prog 46 [x0] g K := by
  refine ok_fw Try.mixed Try.func46 (by kernel_rfl) (by kernel_rfl) (c := nd46 []) (by kernel_rfl) fun wf lt => ?_
  rw [← en46_eq]
  replace h := h wf lt
  generalize hs : startL _ = tm
  replace h : F46 (tm 0) g K := by rw [← hs]; exact h
  try unfold F46 at h
  refine code2_sound ok_mono _ _ _ ?_
  refine kmp ?_ h
  generalize Ok Try.prog = C
  try unfold en46
  as_aux_lemma => kernel_rfl

/-! (*parapet/frame.Frames).made (12 slots) -/
noncomputable def en54 (K : LV → LHeap → Prop) : LEx → LSt → Prop := fun e st => match e with
  | .exit _ => False
  | _ => K (st.tm 2) st.g
theorem en54_eq (K : LV → LHeap → Prop) : en54 K = endL Try.prog Try.f54 K := by
  funext e st
  cases e <;> kernel_rfl
noncomputable def nd54 (p : List Nat) : Code := subC p (bodyC Try.prog 54)
noncomputable def F54 (x0 : LV) (g : LHeap) (K : LV → LHeap → Prop) : Prop :=
  vK (binL Try.prog .neq 47 true x0 .nilp) fun t4 =>
  gd t4 true g (fun K => K x0 g) fun t6 g =>
  gd t4 true g (fun K => vK (nilCheckL t6) fun v => K v g) fun t7 g =>
  gd t4 true g (fun K => vK (fieldAddrL 0 t7) fun v => K v g) fun t8 g =>
  gd t4 true g (fun K => vK (loadV none t8 g) fun v => K v g) fun t9 g =>
  gd t4 true g (fun K => vK (binL Try.prog .neq 44 true t9 .nilp) fun v => K v g) fun t10 g =>
  vK (pickL t4 t10 (.bool false)) fun t11 =>
  K t11 g
theorem ok54 {x0 : LV} {g : LHeap} {K : LV → LHeap → Prop} (h : g.Wf → (∀ v ∈ ([x0] : List LV), ∀ b ∈ v.objs, b < g.next) → F54 x0 g K) : Ok Try.prog 54 [x0] g K := by
  refine ok_fw Try.mixed Try.func54 (by kernel_rfl) (by kernel_rfl) (c := nd54 []) (by kernel_rfl) fun wf lt => ?_
  rw [← en54_eq]
  replace h := h wf lt
  generalize hs : startL _ = tm
  replace h : F54 (tm 0) g K := by rw [← hs]; exact h
  try unfold F54 at h
  refine code2_sound ok_mono _ _ _ ?_
  refine kmp ?_ h
  generalize Ok Try.prog = C
  try unfold en54
  as_aux_lemma => kernel_rfl

/-! (*parapet/frame.Frames).is (15 slots) -/
noncomputable def en55 (K : LV → LHeap → Prop) : LEx → LSt → Prop := fun e st => match e with
  | .exit _ => False
  | _ => K (st.tm 4) st.g
theorem en55_eq (K : LV → LHeap → Prop) : en55 K = endL Try.prog Try.f55 K := by
  funext e st
  cases e <;> kernel_rfl
noncomputable def nd55 (p : List Nat) : Code := subC p (bodyC Try.prog 55)
noncomputable def F55 (x0 x1 : LV) (g : LHeap) (K : LV → LHeap → Prop) : Prop :=
  vK (binL Try.prog .geq 3 true x1 (.int .i64 (0))) fun t6 =>
  gd t6 true g (fun K => K x1 g) fun t8 g =>
  gd t6 true g (fun K => K x0 g) fun t9 g =>
  gd t6 true g (fun K => vK (nilCheckL t9) fun v => K v g) fun t10 g =>
  gd t6 true g (fun K => vK (fieldAddrL 2 t10) fun v => K v g) fun t11 g =>
  gd t6 true g (fun K => vK (loadV none t11 g) fun v => K v g) fun t12 g =>
  gd t6 true g (fun K => vK (binL Try.prog .lss 3 false t8 t12) fun v => K v g) fun t13 g =>
  vK (pickL t6 t13 (.bool false)) fun t14 =>
  K t14 g
theorem ok55 {x0 x1 : LV} {g : LHeap} {K : LV → LHeap → Prop} (h : g.Wf → (∀ v ∈ ([x0, x1] : List LV), ∀ b ∈ v.objs, b < g.next) → F55 x0 x1 g K) : Ok Try.prog 55 [x0, x1] g K := by
  refine ok_fw Try.mixed Try.func55 (by kernel_rfl) (by kernel_rfl) (c := nd55 []) (by kernel_rfl) fun wf lt => ?_
  rw [← en55_eq]
  replace h := h wf lt
  generalize hs : startL _ = tm
  replace h : F55 (tm 0) (tm 1) g K := by rw [← hs]; exact h
  try unfold F55 at h
  refine code2_sound ok_mono _ _ _ ?_
  refine kmp ?_ h
  generalize Ok Try.prog = C
  try unfold en55
  as_aux_lemma => kernel_rfl

/-! (*parapet/frame.Frames).fill (111 slots) -/
noncomputable def en56 (K : LV → LHeap → Prop) : LEx → LSt → Prop := fun e st => match e with
  | .exit _ => False
  | _ => K (.tuple []) st.g
theorem en56_eq (K : LV → LHeap → Prop) : en56 K = endL Try.prog Try.f56 K := by
  funext e st
  cases e <;> kernel_rfl
noncomputable def nd56 (p : List Nat) : Code := subC p (bodyC Try.prog 56)
noncomputable def J56_2 (x0 x1 x5 : LV) (g : LHeap)  (K : LV → LHeap → Prop) : Prop :=
  vK (nilCheckL x0) fun t70 =>
  vK (fieldAddrL 4 t70) fun t71 =>
  vK (ixAddrL (some 8) 1 t71 x5) fun t72 =>
  vK (loadV none t72 g) fun t73 =>
  oK (builtinL Try.prog .len [50] [t73] g) fun t74 g =>
  vK (binL Try.prog .add 3 true t74 (.int .i64 (1))) fun t75 =>
  vK (binL Try.prog .quo 3 true t75 (.int .i64 (2))) fun t76 =>
  vK (nilCheckL x0) fun t81 =>
  vK (fieldAddrL 4 t81) fun t82 =>
  vK (ixAddrL (some 8) 1 t82 x1) fun t83 =>
  vK (loadV none t83 g) fun t84 =>
  vK (nilCheckL x0) fun t87 =>
  vK (fieldAddrL 4 t87) fun t88 =>
  vK (ixAddrL (some 8) 1 t88 x5) fun t89 =>
  vK (loadV none t89 g) fun t90 =>
  vK (cutT Try.prog 50 t90 none (some t76) none (limL t90 g)) fun t92 =>
  vK (nilCheckL x0) fun t94 =>
  vK (fieldAddrL 4 t94) fun t95 =>
  ((oK (builtinL Try.prog .append [50, 50] [t84, t92] g) fun t93 g =>
  
  vK (ixAddrL (some 8) 1 t95 x1) fun t96 =>
  ((gK (storeV 1 t96 t93 g) fun g =>
  
  vK (nilCheckL x0) fun t101 =>
  vK (fieldAddrL 4 t101) fun t102 =>
  vK (ixAddrL (some 8) 1 t102 x5) fun t103 =>
  vK (loadV none t103 g) fun t104 =>
  vK (cutT Try.prog 50 t104 (some t76) none none (limL t104 g)) fun t106 =>
  vK (nilCheckL x0) fun t108 =>
  vK (fieldAddrL 4 t108) fun t109 =>
  ((Ok Try.prog 64 [t106] g fun t107 g =>
  
  vK (ixAddrL (some 8) 1 t109 x5) fun t110 =>
  ((gK (storeV 1 t110 t107 g) fun g =>
  
  K (.tuple []) g) ∧ True)) ∧ True)) ∧ True)) ∧ True)
abbrev kj56_2  (K : LV → LHeap → Prop) : LSt → Prop := fun st => J56_2 (st.tm 0) (st.tm 1) (st.tm 5) st.g  K
theorem J56_2_ok  (K : LV → LHeap → Prop) (tm : Nat → LV) (g : LHeap) (h : J56_2 (tm 0) (tm 1) (tm 5) g  K) : codeL Try.prog (Ok Try.prog) (nd56 [1, 1, 1]) ⟨tm, g⟩ (en56 K) := by
  try unfold J56_2 at h
  refine code3_sound ok_mono (pl := [(12, (.lt 0 false (.lt 1 false (.lt 2 false (.lt 3 false (.lt 4 false (.lt 5 false (.lt 6 false (.lt 7 false (.lt 8 false (.lt 9 false (.lt 10 false (.lt 11 false (.lt 12 false (.lt 13 false (.lt 14 false (.lt 15 false (.lt 17 false (.lt 18 false (.hv 16 (.lt 19 false (.hv 20 .nil .nil)) .nil)))))))))))))))))))), (13, (.lt 0 false (.lt 1 false (.lt 2 false (.lt 3 false (.lt 4 false (.lt 5 false (.lt 6 false (.lt 7 false (.lt 8 false (.lt 9 false (.lt 11 false (.lt 12 false (.hv 10 (.lt 13 false (.hv 14 .nil .nil)) .nil))))))))))))))]) _ _ _ (by kernel_rfl) ?_
  refine kmp ?_ h
  generalize Ok Try.prog = C
  try unfold en56
  as_aux_lemma => kernel_rfl

noncomputable def L56_4 (x0 x1 x47 : LV) (x5 x48 : LV) (g : LHeap) (N4 : LV × LV → LHeap → Prop) (K : LV → LHeap → Prop) : Prop :=
  vK (binL Try.prog .lss 3 false x48 x47) fun t49 =>
  ifB t49 (
  vK (nilCheckL x0) fun t53 =>
  vK (fieldAddrL 4 t53) fun t54 =>
  vK (ixAddrL (some 8) 1 t54 x48) fun t55 =>
  vK (loadV none t55 g) fun t56 =>
  vK (lenL Try.prog 50 t56 g) fun t57 =>
  vK (nilCheckL x0) fun t60 =>
  vK (fieldAddrL 4 t60) fun t61 =>
  vK (ixAddrL (some 8) 1 t61 x5) fun t62 =>
  vK (loadV none t62 g) fun t63 =>
  vK (lenL Try.prog 50 t63 g) fun t64 =>
  vK (binL Try.prog .gtr 3 false t57 t64) fun t65 =>
  ifB t65 (
  vK (binL Try.prog .add 3 true x48 (.int .i64 (1))) fun t67 =>
  N4 (x48, t67) g) (
  vK (binL Try.prog .add 3 true x48 (.int .i64 (1))) fun t67 =>
  N4 (x5, t67) g)) (
  J56_2 x0 x1 x5 g  K)
theorem L56_4_ok (R4 : LV × LV × LV → LV × LV → LHeap → Prop) (K : LV → LHeap → Prop) (tm : Nat → LV) (g : LHeap) (h : L56_4 (tm 0) (tm 1) (tm 47) (tm 5) (tm 48) g (fun s g => R4 ((tm 0), (tm 1), (tm 47)) s g) K) : codeL Try.prog (Ok Try.prog) (nd56 [1, 1, 0, 1, 0, 0]) ⟨tm, g⟩ (roundK (fun tm : Nat → LV => (tm 0, tm 1, tm 47)) (fun tm : Nat → LV => (tm 5, tm 48)) R4 (exitL 0 (thenL (kj56_2  K) (en56 K)))) := by
  try unfold L56_4 at h
  unfold kj56_2
  generalize @J56_2 = Q56_2 at h ⊢
  refine code3_sound ok_mono (pl := [(8, (.lt 0 false (.lt 1 false (.lt 2 false (.lt 3 false (.lt 4 false (.lt 5 false (.lt 6 false (.lt 7 false (.lt 8 false (.lt 9 false (.lt 10 false (.lt 11 false (.lt 12 false (.lt 13 false (.lt 14 false .nil))))))))))))))))]) _ _ _ (by kernel_rfl) ?_
  refine kmp ?_ h
  generalize Ok Try.prog = C
  try unfold en56
  as_aux_lemma => kernel_rfl

noncomputable def J56_3 (x0 x1 x5 x47 x48 : LV) (g : LHeap)  (K : LV → LHeap → Prop) : Prop :=
  loopP (fun s g N => L56_4 x0 x1 x47 s.1 s.2 g N  K) (x5, x48) g
abbrev kj56_3  (K : LV → LHeap → Prop) : LSt → Prop := fun st => J56_3 (st.tm 0) (st.tm 1) (st.tm 5) (st.tm 47) (st.tm 48) st.g  K
theorem J56_3_ok  (K : LV → LHeap → Prop) (tm : Nat → LV) (g : LHeap) (h : J56_3 (tm 0) (tm 1) (tm 5) (tm 47) (tm 48) g  K) : codeL Try.prog (Ok Try.prog) (nd56 [1, 1, 0, 1]) ⟨tm, g⟩ (thenL (kj56_2  K) (en56 K)) := by
  refine block_i (b := nd56 [1, 1, 0, 1, 0]) (i := 0) (by kernel_rfl) ?_
  exact loop_glue (b := nd56 [1, 1, 0, 1, 0, 0]) (by kernel_rfl) (fun tm : Nat → LV => (tm 0, tm 1, tm 47)) (fun tm : Nat → LV => (tm 5, tm 48)) (fun a s g N => L56_4 a.1 a.2.1 a.2.2 s.1 s.2 g N  K) (fun tm g R h => L56_4_ok R  K tm g h) tm g h

noncomputable def J56_1 (x0 x1 x5 : LV) (g : LHeap)  (K : LV → LHeap → Prop) : Prop :=
  vK (nilCheckL x0) fun t45 =>
  vK (fieldAddrL 2 t45) fun t46 =>
  vK (loadV none t46 g) fun t47 =>
  J56_3 x0 x1 x5 t47 (.int .i64 (0)) g  K
abbrev kj56_1  (K : LV → LHeap → Prop) : LSt → Prop := fun st => J56_1 (st.tm 0) (st.tm 1) (st.tm 5) st.g  K
theorem J56_1_ok  (K : LV → LHeap → Prop) (tm : Nat → LV) (g : LHeap) (h : J56_1 (tm 0) (tm 1) (tm 5) g  K) : codeL Try.prog (Ok Try.prog) (nd56 [1, 1]) ⟨tm, g⟩ (en56 K) := by
  refine seq_i (a := nd56 [1, 1, 0]) (b := nd56 [1, 1, 1]) (k' := kj56_2  K) (by kernel_rfl) (fun st h => J56_2_ok  K st.tm st.g h) ?_
  refine seq_i (a := nd56 [1, 1, 0, 0]) (b := nd56 [1, 1, 0, 1]) (k' := kj56_3  K) (by kernel_rfl) (fun st h => J56_3_ok  K st.tm st.g h) ?_
  try unfold J56_1 at h
  unfold kj56_3
  generalize @J56_3 = Q56_3 at h ⊢
  unfold kj56_2
  generalize @J56_2 = Q56_2 at h ⊢
  refine code2_sound ok_mono _ _ _ ?_
  refine kmp ?_ h
  generalize Ok Try.prog = C
  try unfold en56
  as_aux_lemma => kernel_rfl

noncomputable def J56_0 (x0 x1 : LV) (g : LHeap)  (K : LV → LHeap → Prop) : Prop :=
  J56_1 x0 x1 (.int .i64 (0)) g  K
abbrev kj56_0  (K : LV → LHeap → Prop) : LSt → Prop := fun st => J56_0 (st.tm 0) (st.tm 1) st.g  K
theorem J56_0_ok  (K : LV → LHeap → Prop) (tm : Nat → LV) (g : LHeap) (h : J56_0 (tm 0) (tm 1) g  K) : codeL Try.prog (Ok Try.prog) (nd56 [1]) ⟨tm, g⟩ (en56 K) := by
  refine seq_i (a := nd56 [1, 0]) (b := nd56 [1, 1]) (k' := kj56_1  K) (by kernel_rfl) (fun st h => J56_1_ok  K st.tm st.g h) ?_
  try unfold J56_0 at h
  unfold kj56_1
  generalize @J56_1 = Q56_1 at h ⊢
  refine code2_sound ok_mono _ _ _ ?_
  refine kmp ?_ h
  generalize Ok Try.prog = C
  try unfold en56
  as_aux_lemma => kernel_rfl

noncomputable def F56 (x0 x1 : LV) (g : LHeap) (K : LV → LHeap → Prop) : Prop :=
  vK (nilCheckL x0) fun t9 =>
  vK (fieldAddrL 12 t9) fun t10 =>
  vK (loadV none t10 g) fun t11 =>
  oK (builtinL Try.prog .len [50] [t11] g) fun t12 g =>
  oK (builtinL Try.prog .min [3, 3] [t12, (.int .i64 (8))] g) fun t13 g =>
  vK (binL Try.prog .gtr 3 true t13 (.int .i64 (0))) fun t15 =>
  ifB t15 (
  vK (nilCheckL x0) fun t20 =>
  vK (fieldAddrL 4 t20) fun t21 =>
  vK (ixAddrL (some 8) 1 t21 x1) fun t22 =>
  vK (loadV none t22 g) fun t23 =>
  vK (nilCheckL x0) fun t25 =>
  vK (fieldAddrL 12 t25) fun t26 =>
  vK (loadV none t26 g) fun t27 =>
  vK (cutT Try.prog 50 t27 none (some t13) none (limL t27 g)) fun t29 =>
  vK (nilCheckL x0) fun t31 =>
  vK (fieldAddrL 4 t31) fun t32 =>
  ((oK (builtinL Try.prog .append [50, 50] [t23, t29] g) fun t30 g =>
  
  vK (ixAddrL (some 8) 1 t32 x1) fun t33 =>
  ((gK (storeV 1 t33 t30 g) fun g =>
  
  vK (nilCheckL x0) fun t36 =>
  vK (fieldAddrL 12 t36) fun t37 =>
  vK (loadV none t37 g) fun t38 =>
  vK (cutT Try.prog 50 t38 (some t13) none none (limL t38 g)) fun t40 =>
  Ok Try.prog 64 [t40] g fun t41 g =>
  vK (nilCheckL x0) fun t42 =>
  vK (fieldAddrL 12 t42) fun t43 =>
  gK (storeV 1 t43 t41 g) fun g =>
  K (.tuple []) g) ∧ True)) ∧ True)) (
  J56_0 x0 x1 g  K)
theorem ok56 {x0 x1 : LV} {g : LHeap} {K : LV → LHeap → Prop} (h : g.Wf → (∀ v ∈ ([x0, x1] : List LV), ∀ b ∈ v.objs, b < g.next) → F56 x0 x1 g K) : Ok Try.prog 56 [x0, x1] g K := by
  refine ok_fw Try.mixed Try.func56 (by kernel_rfl) (by kernel_rfl) (c := nd56 []) (by kernel_rfl) fun wf lt => ?_
  rw [← en56_eq]
  replace h := h wf lt
  generalize hs : startL _ = tm
  replace h : F56 (tm 0) (tm 1) g K := by rw [← hs]; exact h
  refine seq_i (a := nd56 [0]) (b := nd56 [1]) (k' := kj56_0  K) (by kernel_rfl) (fun st h => J56_0_ok  K st.tm st.g h) ?_
  try unfold F56 at h
  unfold kj56_0
  generalize @J56_0 = Q56_0 at h ⊢
  refine code3_sound ok_mono (pl := [(2, (.lt 0 false (.lt 1 false (.lt 2 false (.lt 3 false (.lt 4 false (.lt 5 false (.lt 6 false (.lt 7 false (.lt 8 false (.lt 9 false (.lt 10 false (.lt 11 false (.lt 12 false (.lt 13 false (.lt 15 false (.lt 16 false (.hv 14 (.lt 17 false (.hv 18 .nil .nil)) .nil))))))))))))))))))]) _ _ _ (by kernel_rfl) ?_
  refine kmp ?_ h
  generalize Ok Try.prog = C
  try unfold en56
  as_aux_lemma => kernel_rfl

/-! (*parapet/frame.Frames).back (49 slots) -/
noncomputable def en59 (K : LV → LHeap → Prop) : LEx → LSt → Prop := fun e st => match e with
  | .exit _ => False
  | _ => K (.tuple []) st.g
theorem en59_eq (K : LV → LHeap → Prop) : en59 K = endL Try.prog Try.f59 K := by
  funext e st
  cases e <;> kernel_rfl
noncomputable def nd59 (p : List Nat) : Code := subC p (bodyC Try.prog 59)
noncomputable def J59_2 (x0 x1 x6 : LV) (g : LHeap)  (K : LV → LHeap → Prop) : Prop :=
  vK (nilCheckL x0) fun t46 =>
  vK (fieldAddrL 4 t46) fun t47 =>
  vK (ixAddrL (some 8) 1 t47 x1) fun t48 =>
  gK (storeV 1 t48 x6 g) fun g =>
  K (.tuple []) g
abbrev kj59_2  (K : LV → LHeap → Prop) : LSt → Prop := fun st => J59_2 (st.tm 0) (st.tm 1) (st.tm 6) st.g  K
theorem J59_2_ok  (K : LV → LHeap → Prop) (tm : Nat → LV) (g : LHeap) (h : J59_2 (tm 0) (tm 1) (tm 6) g  K) : codeL Try.prog (Ok Try.prog) (nd59 [1, 1, 1]) ⟨tm, g⟩ (en59 K) := by
  try unfold J59_2 at h
  refine code2_sound ok_mono _ _ _ ?_
  refine kmp ?_ h
  generalize Ok Try.prog = C
  try unfold en59
  as_aux_lemma => kernel_rfl

noncomputable def J59_1 (x0 x1 x6 : LV) (g : LHeap)  (K : LV → LHeap → Prop) : Prop :=
  oK (builtinL Try.prog .len [50] [x6] g) fun t23 g =>
  vK (binL Try.prog .gtr 3 true t23 (.int .i64 (16))) fun t24 =>
  ifB t24 (
  vK (nilCheckL x0) fun t27 =>
  vK (fieldAddrL 12 t27) fun t28 =>
  vK (loadV none t28 g) fun t29 =>
  vK (cutT Try.prog 50 x6 none (some (.int .i64 (8))) none (limL x6 g)) fun t31 =>
  ((oK (builtinL Try.prog .append [50, 50] [t29, t31] g) fun t32 g =>
  
  vK (nilCheckL x0) fun t33 =>
  vK (fieldAddrL 12 t33) fun t34 =>
  ((gK (storeV 1 t34 t32 g) fun g =>
  
  vK (nilCheckL x0) fun t36 =>
  vK (fieldAddrL 12 t36) fun t37 =>
  vK (loadV none t37 g) fun t38 =>
  Ok Try.prog 66 [t38] g fun t39 g =>
  vK (cutT Try.prog 50 x6 (some (.int .i64 (8))) none none (limL x6 g)) fun t41 =>
  Ok Try.prog 64 [t41] g fun t42 g =>
  J59_2 x0 x1 t42 g  K) ∧ True)) ∧ True)) (
  J59_2 x0 x1 x6 g  K)
abbrev kj59_1  (K : LV → LHeap → Prop) : LSt → Prop := fun st => J59_1 (st.tm 0) (st.tm 1) (st.tm 6) st.g  K
theorem J59_1_ok  (K : LV → LHeap → Prop) (tm : Nat → LV) (g : LHeap) (h : J59_1 (tm 0) (tm 1) (tm 6) g  K) : codeL Try.prog (Ok Try.prog) (nd59 [1, 1]) ⟨tm, g⟩ (en59 K) := by
  refine seq_i (a := nd59 [1, 1, 0]) (b := nd59 [1, 1, 1]) (k' := kj59_2  K) (by kernel_rfl) (fun st h => J59_2_ok  K st.tm st.g h) ?_
  try unfold J59_1 at h
  unfold kj59_2
  generalize @J59_2 = Q59_2 at h ⊢
  refine code2_sound ok_mono _ _ _ ?_
  refine kmp ?_ h
  generalize Ok Try.prog = C
  try unfold en59
  as_aux_lemma => kernel_rfl

noncomputable def J59_0 (x0 x1 x2 : LV) (g : LHeap)  (K : LV → LHeap → Prop) : Prop :=
  vK (nilCheckL x0) fun t15 =>
  vK (fieldAddrL 4 t15) fun t16 =>
  vK (ixAddrL (some 8) 1 t16 x1) fun t17 =>
  vK (loadV none t17 g) fun t18 =>
  oK (buildSliceL Try.prog 50 1 [(0, x2)] g) fun t20 g =>
  oK (builtinL Try.prog .append [50, 50] [t18, t20] g) fun t21 g =>
  J59_1 x0 x1 t21 g  K
abbrev kj59_0  (K : LV → LHeap → Prop) : LSt → Prop := fun st => J59_0 (st.tm 0) (st.tm 1) (st.tm 2) st.g  K
theorem J59_0_ok  (K : LV → LHeap → Prop) (tm : Nat → LV) (g : LHeap) (h : J59_0 (tm 0) (tm 1) (tm 2) g  K) : codeL Try.prog (Ok Try.prog) (nd59 [1]) ⟨tm, g⟩ (en59 K) := by
  refine seq_i (a := nd59 [1, 0]) (b := nd59 [1, 1]) (k' := kj59_1  K) (by kernel_rfl) (fun st h => J59_1_ok  K st.tm st.g h) ?_
  try unfold J59_0 at h
  unfold kj59_1
  generalize @J59_1 = Q59_1 at h ⊢
  refine code2_sound ok_mono _ _ _ ?_
  refine kmp ?_ h
  generalize Ok Try.prog = C
  try unfold en59
  as_aux_lemma => kernel_rfl

noncomputable def F59 (x0 x1 x2 : LV) (g : LHeap) (K : LV → LHeap → Prop) : Prop :=
  vK (nilCheckL x0) fun t8 =>
  vK (fieldAddrL 0 t8) fun t9 =>
  vK (loadV none t9 g) fun t10 =>
  Ok Try.prog 53 [t10, x2] g fun t12 g =>
  J59_0 x0 x1 x2 g  K
theorem ok59 {x0 x1 x2 : LV} {g : LHeap} {K : LV → LHeap → Prop} (h : g.Wf → (∀ v ∈ ([x0, x1, x2] : List LV), ∀ b ∈ v.objs, b < g.next) → F59 x0 x1 x2 g K) : Ok Try.prog 59 [x0, x1, x2] g K := by
  refine ok_fw Try.mixed Try.func59 (by kernel_rfl) (by kernel_rfl) (c := nd59 []) (by kernel_rfl) fun wf lt => ?_
  rw [← en59_eq]
  replace h := h wf lt
  generalize hs : startL _ = tm
  replace h : F59 (tm 0) (tm 1) (tm 2) g K := by rw [← hs]; exact h
  refine seq_i (a := nd59 [0]) (b := nd59 [1]) (k' := kj59_0  K) (by kernel_rfl) (fun st h => J59_0_ok  K st.tm st.g h) ?_
  try unfold F59 at h
  unfold kj59_0
  generalize @J59_0 = Q59_0 at h ⊢
  refine code2_sound ok_mono _ _ _ ?_
  refine kmp ?_ h
  generalize Ok Try.prog = C
  try unfold en59
  as_aux_lemma => kernel_rfl

/-! slices.ContainsFunc[[]byte,byte] (9 slots) -/
noncomputable def en60 (K : LV → LHeap → Prop) : LEx → LSt → Prop := fun e st => match e with
  | .exit _ => False
  | _ => K (st.tm 4) st.g
theorem en60_eq (K : LV → LHeap → Prop) : en60 K = endL Try.prog Try.f60 K := by
  funext e st
  cases e <;> kernel_rfl
noncomputable def nd60 (p : List Nat) : Code := subC p (bodyC Try.prog 60)
noncomputable def F60 (x0 x1 : LV) (g : LHeap) (K : LV → LHeap → Prop) : Prop :=
  Ok Try.prog 83 [x0, x1] g fun t7 g =>
  vK (binL Try.prog .geq 3 true t7 (.int .i64 (0))) fun t8 =>
  K t8 g
theorem ok60 {x0 x1 : LV} {g : LHeap} {K : LV → LHeap → Prop} (h : g.Wf → (∀ v ∈ ([x0, x1] : List LV), ∀ b ∈ v.objs, b < g.next) → F60 x0 x1 g K) : Ok Try.prog 60 [x0, x1] g K := by
  refine ok_fw Try.mixed Try.func60 (by kernel_rfl) (by kernel_rfl) (c := nd60 []) (by kernel_rfl) fun wf lt => ?_
  rw [← en60_eq]
  replace h := h wf lt
  generalize hs : startL _ = tm
  replace h : F60 (tm 0) (tm 1) g K := by rw [← hs]; exact h
  try unfold F60 at h
  refine code2_sound ok_mono _ _ _ ?_
  refine kmp ?_ h
  generalize Ok Try.prog = C
  try unfold en60
  as_aux_lemma => kernel_rfl

/-! (*parapet/frame.Frames).Right$1 (5 slots) -/
noncomputable def en61 (K : LV → LHeap → Prop) : LEx → LSt → Prop := fun e st => match e with
  | .exit _ => False
  | _ => K (st.tm 2) st.g
theorem en61_eq (K : LV → LHeap → Prop) : en61 K = endL Try.prog Try.f61 K := by
  funext e st
  cases e <;> kernel_rfl
noncomputable def nd61 (p : List Nat) : Code := subC p (bodyC Try.prog 61)
noncomputable def F61 (x0 : LV) (g : LHeap) (K : LV → LHeap → Prop) : Prop :=
  vK (binL Try.prog .neq 5 true x0 (.int .u8 (0))) fun t4 =>
  K t4 g
theorem ok61 {x0 : LV} {g : LHeap} {K : LV → LHeap → Prop} (h : g.Wf → (∀ v ∈ ([x0] : List LV), ∀ b ∈ v.objs, b < g.next) → F61 x0 g K) : Ok Try.prog 61 [x0] g K := by
  refine ok_fw Try.mixed Try.func61 (by kernel_rfl) (by kernel_rfl) (c := nd61 []) (by kernel_rfl) fun wf lt => ?_
  rw [← en61_eq]
  replace h := h wf lt
  generalize hs : startL _ = tm
  replace h : F61 (tm 0) g K := by rw [← hs]; exact h
  try unfold F61 at h
  refine code2_sound ok_mono _ _ _ ?_
  refine kmp ?_ h
  generalize Ok Try.prog = C
  try unfold en61
  as_aux_lemma => kernel_rfl

/-! slices.ContainsFunc[[]int,int] (9 slots) -/
noncomputable def en62 (K : LV → LHeap → Prop) : LEx → LSt → Prop := fun e st => match e with
  | .exit _ => False
  | _ => K (st.tm 4) st.g
theorem en62_eq (K : LV → LHeap → Prop) : en62 K = endL Try.prog Try.f62 K := by
  funext e st
  cases e <;> kernel_rfl
noncomputable def nd62 (p : List Nat) : Code := subC p (bodyC Try.prog 62)
noncomputable def F62 (x0 x1 : LV) (g : LHeap) (K : LV → LHeap → Prop) : Prop :=
  Ok Try.prog 76 [x0, x1] g fun t7 g =>
  vK (binL Try.prog .geq 3 true t7 (.int .i64 (0))) fun t8 =>
  K t8 g
theorem ok62 {x0 x1 : LV} {g : LHeap} {K : LV → LHeap → Prop} (h : g.Wf → (∀ v ∈ ([x0, x1] : List LV), ∀ b ∈ v.objs, b < g.next) → F62 x0 x1 g K) : Ok Try.prog 62 [x0, x1] g K := by
  refine ok_fw Try.mixed Try.func62 (by kernel_rfl) (by kernel_rfl) (c := nd62 []) (by kernel_rfl) fun wf lt => ?_
  rw [← en62_eq]
  replace h := h wf lt
  generalize hs : startL _ = tm
  replace h : F62 (tm 0) (tm 1) g K := by rw [← hs]; exact h
  try unfold F62 at h
  refine code2_sound ok_mono _ _ _ ?_
  refine kmp ?_ h
  generalize Ok Try.prog = C
  try unfold en62
  as_aux_lemma => kernel_rfl

/-! (*parapet/frame.Frames).Right$2 (5 slots) -/
noncomputable def en63 (K : LV → LHeap → Prop) : LEx → LSt → Prop := fun e st => match e with
  | .exit _ => False
  | _ => K (st.tm 2) st.g
theorem en63_eq (K : LV → LHeap → Prop) : en63 K = endL Try.prog Try.f63 K := by
  funext e st
  cases e <;> kernel_rfl
noncomputable def nd63 (p : List Nat) : Code := subC p (bodyC Try.prog 63)
noncomputable def F63 (x0 : LV) (g : LHeap) (K : LV → LHeap → Prop) : Prop :=
  vK (binL Try.prog .neq 3 true x0 (.int .i64 (1))) fun t4 =>
  K t4 g
theorem ok63 {x0 : LV} {g : LHeap} {K : LV → LHeap → Prop} (h : g.Wf → (∀ v ∈ ([x0] : List LV), ∀ b ∈ v.objs, b < g.next) → F63 x0 g K) : Ok Try.prog 63 [x0] g K := by
  refine ok_fw Try.mixed Try.func63 (by kernel_rfl) (by kernel_rfl) (c := nd63 []) (by kernel_rfl) fun wf lt => ?_
  rw [← en63_eq]
  replace h := h wf lt
  generalize hs : startL _ = tm
  replace h : F63 (tm 0) g K := by rw [← hs]; exact h
  try unfold F63 at h
  refine code2_sound ok_mono _ _ _ ?_
  refine kmp ?_ h
  generalize Ok Try.prog = C
  try unfold en63
  as_aux_lemma => kernel_rfl

/-! slices.Clone[[]int,int] (8 slots) -/
noncomputable def en64 (K : LV → LHeap → Prop) : LEx → LSt → Prop := fun e st => match e with
  | .exit _ => False
  | _ => K (st.tm 2) st.g
theorem en64_eq (K : LV → LHeap → Prop) : en64 K = endL Try.prog Try.f64 K := by
  funext e st
  cases e <;> kernel_rfl
noncomputable def nd64 (p : List Nat) : Code := subC p (bodyC Try.prog 64)
noncomputable def F64 (x0 : LV) (g : LHeap) (K : LV → LHeap → Prop) : Prop :=
  vK (binL Try.prog .eql 50 true x0 .nils) fun t4 =>
  ifB t4 (
  K .nils g) (
  oK (buildSliceL Try.prog 50 0 [] g) fun t5 g =>
  oK (builtinL Try.prog .append [50, 50] [t5, x0] g) fun t7 g =>
  K t7 g)
theorem ok64 {x0 : LV} {g : LHeap} {K : LV → LHeap → Prop} (h : g.Wf → (∀ v ∈ ([x0] : List LV), ∀ b ∈ v.objs, b < g.next) → F64 x0 g K) : Ok Try.prog 64 [x0] g K := by
  refine ok_fw Try.mixed Try.func64 (by kernel_rfl) (by kernel_rfl) (c := nd64 []) (by kernel_rfl) fun wf lt => ?_
  rw [← en64_eq]
  replace h := h wf lt
  generalize hs : startL _ = tm
  replace h : F64 (tm 0) g K := by rw [← hs]; exact h
  try unfold F64 at h
  refine code2_sound ok_mono _ _ _ ?_
  refine kmp ?_ h
  generalize Ok Try.prog = C
  try unfold en64
  as_aux_lemma => kernel_rfl

/-! (*parapet/frame.Frames).All$1 (33 slots) -/
noncomputable def en65 (K : LV → LHeap → Prop) : LEx → LSt → Prop := fun e st => match e with
  | .exit _ => False
  | _ => K (.tuple []) st.g
theorem en65_eq (K : LV → LHeap → Prop) : en65 K = endL Try.prog Try.f65 K := by
  funext e st
  cases e <;> kernel_rfl
noncomputable def nd65 (p : List Nat) : Code := subC p (bodyC Try.prog 65)
noncomputable def L65_2 (x0 x1 x11 x12 : LV) (x13 : LV) (g : LHeap) (N2 : LV → LHeap → Prop) (K : LV → LHeap → Prop) : Prop :=
  vK (binL Try.prog .lss 3 false x13 x12) fun t14 =>
  ifB t14 (
  vK (ixAddrL none 1 x11 x13) fun t16 =>
  vK (loadV none t16 g) fun t17 =>
  vK (binL Try.prog .gtr 3 true t17 (.int .i64 (0))) fun t19 =>
  gd t19 true g (fun K => K x0 g) fun t21 g =>
  gd t19 true g (fun K => vK (loadV none x1 g) fun v => K v g) fun t22 g =>
  gd t19 true g (fun K => vK (nilCheckL t22) fun v => K v g) fun t23 g =>
  gd t19 true g (fun K => vK (fieldAddrL 1 t23) fun v => K v g) fun t24 g =>
  gd t19 true g (fun K => vK (loadV none t24 g) fun v => K v g) fun t25 g =>
  gd t19 true g (fun K => K x13 g) fun t26 g =>
  gd t19 true g (fun K => vK (binL Try.prog .add 3 false t25 t26) fun v => K v g) fun t27 g =>
  gd t19 true g (fun K => K t17 g) fun t28 g =>
  gd t19 true g (fun K => callV Try.prog (Ok Try.prog) t21 [t27, t28] g K) fun t29 g =>
  gd t19 true g (fun K => vK (unL .not t29) fun v => K v g) fun t30 g =>
  vK (pickL t19 t30 (.bool false)) fun t31 =>
  ifB t31 (
  K (.tuple []) g) (
  vK (binL Try.prog .add 3 true x13 (.int .i64 (1))) fun t32 =>
  N2 t32 g)) (
  K (.tuple []) g)
theorem L65_2_ok (R2 : LV × LV × LV × LV → LV → LHeap → Prop) (K : LV → LHeap → Prop) (tm : Nat → LV) (g : LHeap) (h : L65_2 (tm 0) (tm 1) (tm 11) (tm 12) (tm 13) g (fun s g => R2 ((tm 0), (tm 1), (tm 11), (tm 12)) s g) K) : codeL Try.prog (Ok Try.prog) (nd65 [1, 1, 0, 0]) ⟨tm, g⟩ (roundK (fun tm : Nat → LV => (tm 0, tm 1, tm 11, tm 12)) (fun tm : Nat → LV => tm 13) R2 (exitL 0 (en65 K))) := by
  try unfold L65_2 at h
  refine code2_sound ok_mono _ _ _ ?_
  refine kmp ?_ h
  generalize Ok Try.prog = C
  try unfold en65
  as_aux_lemma => kernel_rfl

noncomputable def J65_1 (x0 x1 x11 x12 x13 : LV) (g : LHeap)  (K : LV → LHeap → Prop) : Prop :=
  loopP (fun s g N => L65_2 x0 x1 x11 x12 s g N  K) x13 g
abbrev kj65_1  (K : LV → LHeap → Prop) : LSt → Prop := fun st => J65_1 (st.tm 0) (st.tm 1) (st.tm 11) (st.tm 12) (st.tm 13) st.g  K
theorem J65_1_ok  (K : LV → LHeap → Prop) (tm : Nat → LV) (g : LHeap) (h : J65_1 (tm 0) (tm 1) (tm 11) (tm 12) (tm 13) g  K) : codeL Try.prog (Ok Try.prog) (nd65 [1, 1]) ⟨tm, g⟩ (en65 K) := by
  refine block_i (b := nd65 [1, 1, 0]) (i := 0) (by kernel_rfl) ?_
  exact loop_glue (b := nd65 [1, 1, 0, 0]) (by kernel_rfl) (fun tm : Nat → LV => (tm 0, tm 1, tm 11, tm 12)) (fun tm : Nat → LV => tm 13) (fun a s g N => L65_2 a.1 a.2.1 a.2.2.1 a.2.2.2 s g N  K) (fun tm g R h => L65_2_ok R  K tm g h) tm g h

noncomputable def J65_0 (x0 x1 : LV) (g : LHeap)  (K : LV → LHeap → Prop) : Prop :=
  vK (loadV none x1 g) fun t8 =>
  vK (nilCheckL t8) fun t9 =>
  vK (fieldAddrL 3 t9) fun t10 =>
  vK (loadV none t10 g) fun t11 =>
  oK (builtinL Try.prog .len [50] [t11] g) fun t12 g =>
  J65_1 x0 x1 t11 t12 (.int .i64 (0)) g  K
abbrev kj65_0  (K : LV → LHeap → Prop) : LSt → Prop := fun st => J65_0 (st.tm 0) (st.tm 1) st.g  K
theorem J65_0_ok  (K : LV → LHeap → Prop) (tm : Nat → LV) (g : LHeap) (h : J65_0 (tm 0) (tm 1) g  K) : codeL Try.prog (Ok Try.prog) (nd65 [1]) ⟨tm, g⟩ (en65 K) := by
  refine seq_i (a := nd65 [1, 0]) (b := nd65 [1, 1]) (k' := kj65_1  K) (by kernel_rfl) (fun st h => J65_1_ok  K st.tm st.g h) ?_
  try unfold J65_0 at h
  unfold kj65_1
  generalize @J65_1 = Q65_1 at h ⊢
  refine code2_sound ok_mono _ _ _ ?_
  refine kmp ?_ h
  generalize Ok Try.prog = C
  try unfold en65
  as_aux_lemma => kernel_rfl

noncomputable def F65 (x0 x1 : LV) (g : LHeap) (K : LV → LHeap → Prop) : Prop :=
  vK (loadV none x1 g) fun t5 =>
  Ok Try.prog 54 [t5] g fun t6 g =>
  vK (unL .not t6) fun t7 =>
  ifB t7 (
  K (.tuple []) g) (
  J65_0 x0 x1 g  K)
theorem ok65 {x0 x1 : LV} {g : LHeap} {K : LV → LHeap → Prop} (h : g.Wf → (∀ v ∈ ([x0, x1] : List LV), ∀ b ∈ v.objs, b < g.next) → F65 x0 x1 g K) : Ok Try.prog 65 [x0, x1] g K := by
  refine ok_fw Try.mixed Try.func65 (by kernel_rfl) (by kernel_rfl) (c := nd65 []) (by kernel_rfl) fun wf lt => ?_
  rw [← en65_eq]
  replace h := h wf lt
  generalize hs : startL _ = tm
  replace h : F65 (tm 0) (tm 1) g K := by rw [← hs]; exact h
  refine seq_i (a := nd65 [0]) (b := nd65 [1]) (k' := kj65_0  K) (by kernel_rfl) (fun st h => J65_0_ok  K st.tm st.g h) ?_
  try unfold F65 at h
  unfold kj65_0
  generalize @J65_0 = Q65_0 at h ⊢
  refine code2_sound ok_mono _ _ _ ?_
  refine kmp ?_ h
  generalize Ok Try.prog = C
  try unfold en65
  as_aux_lemma => kernel_rfl

/-! parapet/frame.New (73 slots) -/
noncomputable def en21 (K : LV → LHeap → Prop) : LEx → LSt → Prop := fun e st => match e with
  | .exit _ => False
  | _ => K (.tuple [(st.tm 8), (st.tm 9)]) st.g
theorem en21_eq (K : LV → LHeap → Prop) : en21 K = endL Try.prog Try.f21 K := by
  funext e st
  cases e <;> kernel_rfl
noncomputable def nd21 (p : List Nat) : Code := subC p (bodyC Try.prog 21)
noncomputable def J21_3 (x10 : LV) (g : LHeap)  (K : LV → LHeap → Prop) : Prop :=
  K (.tuple [x10, (.int .i64 (0))]) g
abbrev kj21_3  (K : LV → LHeap → Prop) : LSt → Prop := fun st => J21_3 (st.tm 10) st.g  K
theorem J21_3_ok  (K : LV → LHeap → Prop) (tm : Nat → LV) (g : LHeap) (h : J21_3 (tm 10) g  K) : codeL Try.prog (Ok Try.prog) (nd21 [1, 1, 1, 1]) ⟨tm, g⟩ (en21 K) := by
  try unfold J21_3 at h
  refine code2_sound ok_mono _ _ _ ?_
  refine kmp ?_ h
  generalize Ok Try.prog = C
  try unfold en21
  as_aux_lemma => kernel_rfl

noncomputable def L21_5 (x0 x1 x2 x10 : LV) (x11 : LV) (g : LHeap) (N5 : LV → LHeap → Prop) (K : LV → LHeap → Prop) : Prop :=
  vK (binL Try.prog .add 3 false x1 x2) fun t55 =>
  vK (binL Try.prog .lss 3 false x11 t55) fun t56 =>
  ifB t56 (
  vK (nilCheckL x10) fun t61 =>
  vK (fieldAddrL 12 t61) fun t62 =>
  vK (loadV none t62 g) fun t63 =>
  oK (buildSliceL Try.prog 50 1 [(0, x11)] g) fun t65 g =>
  oK (builtinL Try.prog .append [50, 50] [t63, t65] g) fun t66 g =>
  vK (nilCheckL x10) fun t67 =>
  vK (fieldAddrL 12 t67) fun t68 =>
  gK (storeV 1 t68 t66 g) fun g =>
  Ok Try.prog 53 [x0, x11] g fun t71 g =>
  vK (binL Try.prog .add 3 true x11 (.int .i64 (1))) fun t58 =>
  N5 t58 g) (
  J21_3 x10 g  K)
theorem L21_5_ok (R5 : LV × LV × LV × LV → LV → LHeap → Prop) (K : LV → LHeap → Prop) (tm : Nat → LV) (g : LHeap) (h : L21_5 (tm 0) (tm 1) (tm 2) (tm 10) (tm 11) g (fun s g => R5 ((tm 0), (tm 1), (tm 2), (tm 10)) s g) K) : codeL Try.prog (Ok Try.prog) (nd21 [1, 1, 1, 0, 1, 0, 0]) ⟨tm, g⟩ (roundK (fun tm : Nat → LV => (tm 0, tm 1, tm 2, tm 10)) (fun tm : Nat → LV => tm 11) R5 (exitL 0 (thenL (kj21_3  K) (en21 K)))) := by
  try unfold L21_5 at h
  unfold kj21_3
  generalize @J21_3 = Q21_3 at h ⊢
  refine code2_sound ok_mono _ _ _ ?_
  refine kmp ?_ h
  generalize Ok Try.prog = C
  try unfold en21
  as_aux_lemma => kernel_rfl

noncomputable def J21_4 (x0 x1 x2 x10 x11 : LV) (g : LHeap)  (K : LV → LHeap → Prop) : Prop :=
  loopP (fun s g N => L21_5 x0 x1 x2 x10 s g N  K) x11 g
abbrev kj21_4  (K : LV → LHeap → Prop) : LSt → Prop := fun st => J21_4 (st.tm 0) (st.tm 1) (st.tm 2) (st.tm 10) (st.tm 11) st.g  K
theorem J21_4_ok  (K : LV → LHeap → Prop) (tm : Nat → LV) (g : LHeap) (h : J21_4 (tm 0) (tm 1) (tm 2) (tm 10) (tm 11) g  K) : codeL Try.prog (Ok Try.prog) (nd21 [1, 1, 1, 0, 1]) ⟨tm, g⟩ (thenL (kj21_3  K) (en21 K)) := by
  refine block_i (b := nd21 [1, 1, 1, 0, 1, 0]) (i := 0) (by kernel_rfl) ?_
  exact loop_glue (b := nd21 [1, 1, 1, 0, 1, 0, 0]) (by kernel_rfl) (fun tm : Nat → LV => (tm 0, tm 1, tm 2, tm 10)) (fun tm : Nat → LV => tm 11) (fun a s g N => L21_5 a.1 a.2.1 a.2.2.1 a.2.2.2 s g N  K) (fun tm g R h => L21_5_ok R  K tm g h) tm g h

noncomputable def J21_2 (x0 x1 x2 x10 : LV) (g : LHeap)  (K : LV → LHeap → Prop) : Prop :=
  J21_4 x0 x1 x2 x10 x1 g  K
abbrev kj21_2  (K : LV → LHeap → Prop) : LSt → Prop := fun st => J21_2 (st.tm 0) (st.tm 1) (st.tm 2) (st.tm 10) st.g  K
theorem J21_2_ok  (K : LV → LHeap → Prop) (tm : Nat → LV) (g : LHeap) (h : J21_2 (tm 0) (tm 1) (tm 2) (tm 10) g  K) : codeL Try.prog (Ok Try.prog) (nd21 [1, 1, 1]) ⟨tm, g⟩ (en21 K) := by
  refine seq_i (a := nd21 [1, 1, 1, 0]) (b := nd21 [1, 1, 1, 1]) (k' := kj21_3  K) (by kernel_rfl) (fun st h => J21_3_ok  K st.tm st.g h) ?_
  refine seq_i (a := nd21 [1, 1, 1, 0, 0]) (b := nd21 [1, 1, 1, 0, 1]) (k' := kj21_4  K) (by kernel_rfl) (fun st h => J21_4_ok  K st.tm st.g h) ?_
  try unfold J21_2 at h
  unfold kj21_4
  generalize @J21_4 = Q21_4 at h ⊢
  unfold kj21_3
  generalize @J21_3 = Q21_3 at h ⊢
  refine code2_sound ok_mono _ _ _ ?_
  refine kmp ?_ h
  generalize Ok Try.prog = C
  try unfold en21
  as_aux_lemma => kernel_rfl

noncomputable def J21_1 (x0 x1 x2 x3 : LV) (g : LHeap)  (K : LV → LHeap → Prop) : Prop :=
  oK (makeSliceL Try.prog 50 x2 x2 g) fun t48 g =>
  vK (buildL Try.prog 62 [(0, x0), (1, x1), (2, x3), (3, t48)]) fun t49 =>
  oK (newL t49 g) fun t50 g =>
  J21_2 x0 x1 x2 t50 g  K
abbrev kj21_1  (K : LV → LHeap → Prop) : LSt → Prop := fun st => J21_1 (st.tm 0) (st.tm 1) (st.tm 2) (st.tm 3) st.g  K
theorem J21_1_ok  (K : LV → LHeap → Prop) (tm : Nat → LV) (g : LHeap) (h : J21_1 (tm 0) (tm 1) (tm 2) (tm 3) g  K) : codeL Try.prog (Ok Try.prog) (nd21 [1, 1]) ⟨tm, g⟩ (en21 K) := by
  refine seq_i (a := nd21 [1, 1, 0]) (b := nd21 [1, 1, 1]) (k' := kj21_2  K) (by kernel_rfl) (fun st h => J21_2_ok  K st.tm st.g h) ?_
  try unfold J21_1 at h
  unfold kj21_2
  generalize @J21_2 = Q21_2 at h ⊢
  refine code2_sound ok_mono _ _ _ ?_
  refine kmp ?_ h
  generalize Ok Try.prog = C
  try unfold en21
  as_aux_lemma => kernel_rfl

noncomputable def J21_0 (x0 x1 x2 x3 : LV) (g : LHeap)  (K : LV → LHeap → Prop) : Prop :=
  vK (binL Try.prog .eql 44 true x0 .nilp) fun t13 =>
  gd t13 false g (fun K => K x3 g) fun t15 g =>
  gd t13 false g (fun K => vK (binL Try.prog .lss 3 true t15 (.int .i64 (1))) fun v => K v g) fun t16 g =>
  vK (pickL t13 (.bool true) t16) fun t17 =>
  gd t17 false g (fun K => K x3 g) fun t19 g =>
  gd t17 false g (fun K => vK (binL Try.prog .gtr 3 true t19 (.int .i64 (8))) fun v => K v g) fun t20 g =>
  vK (pickL t17 (.bool true) t20) fun t21 =>
  gd t21 false g (fun K => K x2 g) fun t23 g =>
  gd t21 false g (fun K => vK (binL Try.prog .lss 3 true t23 (.int .i64 (1))) fun v => K v g) fun t24 g =>
  vK (pickL t21 (.bool true) t24) fun t25 =>
  gd t25 false g (fun K => K x1 g) fun t27 g =>
  gd t25 false g (fun K => vK (binL Try.prog .lss 3 true t27 (.int .i64 (0))) fun v => K v g) fun t28 g =>
  vK (pickL t25 (.bool true) t28) fun t29 =>
  gd t29 false g (fun K => K x1 g) fun t31 g =>
  gd t29 false g (fun K => K x0 g) fun t32 g =>
  gd t29 false g (fun K => Ok Try.prog 52 [t32] g K) fun t33 g =>
  gd t29 false g (fun K => vK (binL Try.prog .gtr 3 false t31 t33) fun v => K v g) fun t34 g =>
  vK (pickL t29 (.bool true) t34) fun t35 =>
  gd t35 false g (fun K => K x2 g) fun t37 g =>
  gd t35 false g (fun K => K x0 g) fun t38 g =>
  gd t35 false g (fun K => Ok Try.prog 52 [t38] g K) fun t39 g =>
  gd t35 false g (fun K => K x1 g) fun t40 g =>
  gd t35 false g (fun K => vK (binL Try.prog .sub 3 false t39 t40) fun v => K v g) fun t41 g =>
  gd t35 false g (fun K => vK (binL Try.prog .gtr 3 false t37 t41) fun v => K v g) fun t42 g =>
  vK (pickL t35 (.bool true) t42) fun t43 =>
  ifB t43 (
  K (.tuple [.nilp, (.int .i64 (1))]) g) (
  J21_1 x0 x1 x2 x3 g  K)
abbrev kj21_0  (K : LV → LHeap → Prop) : LSt → Prop := fun st => J21_0 (st.tm 0) (st.tm 1) (st.tm 2) (st.tm 3) st.g  K
theorem J21_0_ok  (K : LV → LHeap → Prop) (tm : Nat → LV) (g : LHeap) (h : J21_0 (tm 0) (tm 1) (tm 2) (tm 3) g  K) : codeL Try.prog (Ok Try.prog) (nd21 [1]) ⟨tm, g⟩ (en21 K) := by
  refine seq_i (a := nd21 [1, 0]) (b := nd21 [1, 1]) (k' := kj21_1  K) (by kernel_rfl) (fun st h => J21_1_ok  K st.tm st.g h) ?_
  try unfold J21_0 at h
  unfold kj21_1
  generalize @J21_1 = Q21_1 at h ⊢
  refine code2_sound ok_mono _ _ _ ?_
  refine kmp ?_ h
  generalize Ok Try.prog = C
  try unfold en21
  as_aux_lemma => kernel_rfl

noncomputable def F21 (x0 x1 x2 x3 : LV) (g : LHeap) (K : LV → LHeap → Prop) : Prop :=
  J21_0 x0 x1 x2 x3 g  K
theorem ok21 {x0 x1 x2 x3 : LV} {g : LHeap} {K : LV → LHeap → Prop} (h : g.Wf → (∀ v ∈ ([x0, x1, x2, x3] : List LV), ∀ b ∈ v.objs, b < g.next) → F21 x0 x1 x2 x3 g K) : Ok Try.prog 21 [x0, x1, x2, x3] g K := by
  refine ok_fw Try.mixed Try.func21 (by kernel_rfl) (by kernel_rfl) (c := nd21 []) (by kernel_rfl) fun wf lt => ?_
  rw [← en21_eq]
  replace h := h wf lt
  generalize hs : startL _ = tm
  replace h : F21 (tm 0) (tm 1) (tm 2) (tm 3) g K := by rw [← hs]; exact h
  refine seq_i (a := nd21 [0]) (b := nd21 [1]) (k' := kj21_0  K) (by kernel_rfl) (fun st h => J21_0_ok  K st.tm st.g h) ?_
  try unfold F21 at h
  unfold kj21_0
  generalize @J21_0 = Q21_0 at h ⊢
  refine code2_sound ok_mono _ _ _ ?_
  refine kmp ?_ h
  generalize Ok Try.prog = C
  try unfold en21
  as_aux_lemma => kernel_rfl

/-! (*parapet/frame.Frames).Alloc (74 slots) -/
noncomputable def en22 (K : LV → LHeap → Prop) : LEx → LSt → Prop := fun e st => match e with
  | .exit _ => False
  | _ => K (.tuple [(st.tm 4), (st.tm 5)]) st.g
theorem en22_eq (K : LV → LHeap → Prop) : en22 K = endL Try.prog Try.f22 K := by
  funext e st
  cases e <;> kernel_rfl
noncomputable def nd22 (p : List Nat) : Code := subC p (bodyC Try.prog 22)
noncomputable def J22_2 (x0 x1 : LV) (g : LHeap)  (K : LV → LHeap → Prop) : Prop :=
  vK (nilCheckL x0) fun t34 =>
  vK (fieldAddrL 4 t34) fun t35 =>
  vK (ixAddrL (some 8) 1 t35 x1) fun t36 =>
  vK (loadV none t36 g) fun t37 =>
  oK (builtinL Try.prog .len [50] [t37] g) fun t38 g =>
  vK (binL Try.prog .sub 3 true t38 (.int .i64 (1))) fun t39 =>
  vK (nilCheckL x0) fun t42 =>
  vK (fieldAddrL 4 t42) fun t43 =>
  vK (ixAddrL (some 8) 1 t43 x1) fun t44 =>
  vK (loadV none t44 g) fun t45 =>
  vK (ixAddrL none 1 t45 t39) fun t47 =>
  vK (loadV none t47 g) fun t48 =>
  vK (nilCheckL x0) fun t53 =>
  vK (fieldAddrL 4 t53) fun t54 =>
  vK (ixAddrL (some 8) 1 t54 x1) fun t55 =>
  vK (loadV none t55 g) fun t56 =>
  vK (cutT Try.prog 50 t56 none (some t39) none (limL t56 g)) fun t58 =>
  vK (nilCheckL x0) fun t59 =>
  vK (fieldAddrL 4 t59) fun t60 =>
  vK (ixAddrL (some 8) 1 t60 x1) fun t61 =>
  ((gK (storeV 1 t61 t58 g) fun g =>
  
  vK (nilCheckL x0) fun t63 =>
  vK (fieldAddrL 3 t63) fun t64 =>
  vK (loadV none t64 g) fun t65 =>
  vK (nilCheckL x0) fun t68 =>
  vK (fieldAddrL 1 t68) fun t69 =>
  vK (loadV none t69 g) fun t70 =>
  vK (binL Try.prog .sub 3 false t48 t70) fun t71 =>
  vK (ixAddrL none 1 t65 t71) fun t72 =>
  ((gK (storeV 1 t72 (.int .i64 (1)) g) fun g =>
  
  K (.tuple [t48, (.int .i64 (0))]) g) ∧ True)) ∧ True)
abbrev kj22_2  (K : LV → LHeap → Prop) : LSt → Prop := fun st => J22_2 (st.tm 0) (st.tm 1) st.g  K
theorem J22_2_ok  (K : LV → LHeap → Prop) (tm : Nat → LV) (g : LHeap) (h : J22_2 (tm 0) (tm 1) g  K) : codeL Try.prog (Ok Try.prog) (nd22 [1, 1, 1]) ⟨tm, g⟩ (en22 K) := by
  try unfold J22_2 at h
  refine code3_sound ok_mono (pl := [(11, (.lt 0 false (.lt 1 false (.lt 2 false (.lt 3 false (.lt 4 false (.lt 5 false (.lt 6 false (.lt 7 false (.lt 8 false (.lt 9 false (.lt 10 false (.lt 11 false (.lt 12 false (.hv 13 .nil .nil)))))))))))))))]) _ _ _ (by kernel_rfl) ?_
  refine kmp ?_ h
  generalize Ok Try.prog = C
  try unfold en22
  as_aux_lemma => kernel_rfl

noncomputable def J22_1 (x0 x1 : LV) (g : LHeap)  (K : LV → LHeap → Prop) : Prop :=
  vK (nilCheckL x0) fun t23 =>
  vK (fieldAddrL 4 t23) fun t24 =>
  vK (ixAddrL (some 8) 1 t24 x1) fun t25 =>
  vK (loadV none t25 g) fun t26 =>
  oK (builtinL Try.prog .len [50] [t26] g) fun t27 g =>
  vK (binL Try.prog .eql 3 true t27 (.int .i64 (0))) fun t28 =>
  ifB t28 (
  Ok Try.prog 56 [x0, x1] g fun t31 g =>
  J22_2 x0 x1 g  K) (
  J22_2 x0 x1 g  K)
abbrev kj22_1  (K : LV → LHeap → Prop) : LSt → Prop := fun st => J22_1 (st.tm 0) (st.tm 1) st.g  K
theorem J22_1_ok  (K : LV → LHeap → Prop) (tm : Nat → LV) (g : LHeap) (h : J22_1 (tm 0) (tm 1) g  K) : codeL Try.prog (Ok Try.prog) (nd22 [1, 1]) ⟨tm, g⟩ (en22 K) := by
  refine seq_i (a := nd22 [1, 1, 0]) (b := nd22 [1, 1, 1]) (k' := kj22_2  K) (by kernel_rfl) (fun st h => J22_2_ok  K st.tm st.g h) ?_
  try unfold J22_1 at h
  unfold kj22_2
  generalize @J22_2 = Q22_2 at h ⊢
  refine code2_sound ok_mono _ _ _ ?_
  refine kmp ?_ h
  generalize Ok Try.prog = C
  try unfold en22
  as_aux_lemma => kernel_rfl

noncomputable def J22_0 (x0 x1 : LV) (g : LHeap)  (K : LV → LHeap → Prop) : Prop :=
  Ok Try.prog 54 [x0] g fun t10 g =>
  vK (unL .not t10) fun t11 =>
  ifB t11 (
  K (.tuple [(.int .i64 (0)), (.int .i64 (6))]) g) (
  Ok Try.prog 55 [x0, x1] g fun t15 g =>
  vK (unL .not t15) fun t16 =>
  ifB t16 (
  K (.tuple [(.int .i64 (0)), (.int .i64 (1))]) g) (
  Ok Try.prog 27 [x0] g fun t19 g =>
  vK (binL Try.prog .eql 3 true t19 (.int .i64 (0))) fun t20 =>
  ifB t20 (
  K (.tuple [(.int .i64 (0)), (.int .i64 (2))]) g) (
  J22_1 x0 x1 g  K)))
abbrev kj22_0  (K : LV → LHeap → Prop) : LSt → Prop := fun st => J22_0 (st.tm 0) (st.tm 1) st.g  K
theorem J22_0_ok  (K : LV → LHeap → Prop) (tm : Nat → LV) (g : LHeap) (h : J22_0 (tm 0) (tm 1) g  K) : codeL Try.prog (Ok Try.prog) (nd22 [1]) ⟨tm, g⟩ (en22 K) := by
  refine seq_i (a := nd22 [1, 0]) (b := nd22 [1, 1]) (k' := kj22_1  K) (by kernel_rfl) (fun st h => J22_1_ok  K st.tm st.g h) ?_
  try unfold J22_0 at h
  unfold kj22_1
  generalize @J22_1 = Q22_1 at h ⊢
  refine code2_sound ok_mono _ _ _ ?_
  refine kmp ?_ h
  generalize Ok Try.prog = C
  try unfold en22
  as_aux_lemma => kernel_rfl

noncomputable def F22 (x0 x1 : LV) (g : LHeap) (K : LV → LHeap → Prop) : Prop :=
  J22_0 x0 x1 g  K
theorem ok22 {x0 x1 : LV} {g : LHeap} {K : LV → LHeap → Prop} (h : g.Wf → (∀ v ∈ ([x0, x1] : List LV), ∀ b ∈ v.objs, b < g.next) → F22 x0 x1 g K) : Ok Try.prog 22 [x0, x1] g K := by
  refine ok_fw Try.mixed Try.func22 (by kernel_rfl) (by kernel_rfl) (c := nd22 []) (by kernel_rfl) fun wf lt => ?_
  rw [← en22_eq]
  replace h := h wf lt
  generalize hs : startL _ = tm
  replace h : F22 (tm 0) (tm 1) g K := by rw [← hs]; exact h
  refine seq_i (a := nd22 [0]) (b := nd22 [1]) (k' := kj22_0  K) (by kernel_rfl) (fun st h => J22_0_ok  K st.tm st.g h) ?_
  try unfold F22 at h
  unfold kj22_0
  generalize @J22_0 = Q22_0 at h ⊢
  refine code2_sound ok_mono _ _ _ ?_
  refine kmp ?_ h
  generalize Ok Try.prog = C
  try unfold en22
  as_aux_lemma => kernel_rfl

/-! (*parapet/frame.Frames).Decr (44 slots) -/
noncomputable def en25 (K : LV → LHeap → Prop) : LEx → LSt → Prop := fun e st => match e with
  | .exit _ => False
  | _ => K (.tuple [(st.tm 6), (st.tm 7)]) st.g
theorem en25_eq (K : LV → LHeap → Prop) : en25 K = endL Try.prog Try.f25 K := by
  funext e st
  cases e <;> kernel_rfl
noncomputable def nd25 (p : List Nat) : Code := subC p (bodyC Try.prog 25)
noncomputable def F25 (x0 x1 x2 : LV) (g : LHeap) (K : LV → LHeap → Prop) : Prop :=
  Ok Try.prog 54 [x0] g fun t10 g =>
  vK (unL .not t10) fun t11 =>
  ifB t11 (
  K (.tuple [(.bool false), (.int .i64 (6))]) g) (
  Ok Try.prog 55 [x0, x1] g fun t15 g =>
  vK (unL .not t15) fun t16 =>
  ifB t16 (
  K (.tuple [(.bool false), (.int .i64 (1))]) g) (
  Ok Try.prog 30 [x0, x2] g fun t20 g =>
  vK (binL Try.prog .eql 3 true t20 (.int .i64 (0))) fun t21 =>
  ifB t21 (
  K (.tuple [(.bool false), (.int .i64 (60))]) g) (
  vK (nilCheckL x0) fun t23 =>
  vK (fieldAddrL 3 t23) fun t24 =>
  vK (loadV none t24 g) fun t25 =>
  vK (nilCheckL x0) fun t28 =>
  vK (fieldAddrL 1 t28) fun t29 =>
  vK (loadV none t29 g) fun t30 =>
  vK (binL Try.prog .sub 3 false x2 t30) fun t31 =>
  vK (ixAddrL none 1 t25 t31) fun t32 =>
  vK (loadV none t32 g) fun t33 =>
  vK (binL Try.prog .sub 3 true t33 (.int .i64 (1))) fun t34 =>
  vK (ixAddrL none 1 t25 t31) fun t35 =>
  ((gK (storeV 1 t35 t34 g) fun g =>
  
  Ok Try.prog 30 [x0, x2] g fun t38 g =>
  vK (binL Try.prog .gtr 3 true t38 (.int .i64 (0))) fun t39 =>
  ifB t39 (
  K (.tuple [(.bool false), (.int .i64 (0))]) g) (
  Ok Try.prog 59 [x0, x1, x2] g fun t43 g =>
  K (.tuple [(.bool true), (.int .i64 (0))]) g)) ∧ True))))
theorem ok25 {x0 x1 x2 : LV} {g : LHeap} {K : LV → LHeap → Prop} (h : g.Wf → (∀ v ∈ ([x0, x1, x2] : List LV), ∀ b ∈ v.objs, b < g.next) → F25 x0 x1 x2 g K) : Ok Try.prog 25 [x0, x1, x2] g K := by
  refine ok_fw Try.mixed Try.func25 (by kernel_rfl) (by kernel_rfl) (c := nd25 []) (by kernel_rfl) fun wf lt => ?_
  rw [← en25_eq]
  replace h := h wf lt
  generalize hs : startL _ = tm
  replace h : F25 (tm 0) (tm 1) (tm 2) g K := by rw [← hs]; exact h
  try unfold F25 at h
  refine code3_sound ok_mono (pl := [(7, (.lt 0 false (.lt 1 false (.lt 2 false (.lt 3 false (.lt 4 false (.lt 5 false (.lt 6 false (.lt 7 false (.lt 8 false (.lt 9 false (.lt 10 false (.lt 11 false (.lt 12 false (.lt 13 false (.hv 14 .nil .nil))))))))))))))))]) _ _ _ (by kernel_rfl) ?_
  refine kmp ?_ h
  generalize Ok Try.prog = C
  try unfold en25
  as_aux_lemma => kernel_rfl

/-! (*parapet/frame.Frames).Used (14 slots) -/
noncomputable def en26 (K : LV → LHeap → Prop) : LEx → LSt → Prop := fun e st => match e with
  | .exit _ => False
  | _ => K (st.tm 2) st.g
theorem en26_eq (K : LV → LHeap → Prop) : en26 K = endL Try.prog Try.f26 K := by
  funext e st
  cases e <;> kernel_rfl
noncomputable def nd26 (p : List Nat) : Code := subC p (bodyC Try.prog 26)
noncomputable def F26 (x0 : LV) (g : LHeap) (K : LV → LHeap → Prop) : Prop :=
  Ok Try.prog 54 [x0] g fun t4 g =>
  vK (unL .not t4) fun t5 =>
  ifB t5 (
  K (.int .i64 (0)) g) (
  vK (nilCheckL x0) fun t7 =>
  vK (fieldAddrL 3 t7) fun t8 =>
  vK (loadV none t8 g) fun t9 =>
  vK (lenL Try.prog 50 t9 g) fun t10 =>
  ((Ok Try.prog 27 [x0] g fun t12 g =>
  ((loadV none t8 g) = some t9 ∧ 
  vK (binL Try.prog .sub 3 false t10 t12) fun t13 =>
  K t13 g)) ∧ True))
theorem ok26 {x0 : LV} {g : LHeap} {K : LV → LHeap → Prop} (h : g.Wf → (∀ v ∈ ([x0] : List LV), ∀ b ∈ v.objs, b < g.next) → F26 x0 g K) : Ok Try.prog 26 [x0] g K := by
  refine ok_fw Try.mixed Try.func26 (by kernel_rfl) (by kernel_rfl) (c := nd26 []) (by kernel_rfl) fun wf lt => ?_
  rw [← en26_eq]
  replace h := h wf lt
  generalize hs : startL _ = tm
  replace h : F26 (tm 0) g K := by rw [← hs]; exact h
  try unfold F26 at h
  refine code2_sound ok_mono _ _ _ ?_
  refine kmp ?_ h
  generalize Ok Try.prog = C
  try unfold en26
  as_aux_lemma => kernel_rfl

/-! (*parapet/frame.Frames).Free (27 slots) -/
noncomputable def en27 (K : LV → LHeap → Prop) : LEx → LSt → Prop := fun e st => match e with
  | .exit _ => False
  | _ => K (st.tm 2) st.g
theorem en27_eq (K : LV → LHeap → Prop) : en27 K = endL Try.prog Try.f27 K := by
  funext e st
  cases e <;> kernel_rfl
noncomputable def nd27 (p : List Nat) : Code := subC p (bodyC Try.prog 27)
noncomputable def J27_3 (x3 : LV) (g : LHeap)  (K : LV → LHeap → Prop) : Prop :=
  K x3 g
abbrev kj27_3  (K : LV → LHeap → Prop) : LSt → Prop := fun st => J27_3 (st.tm 3) st.g  K
theorem J27_3_ok  (K : LV → LHeap → Prop) (tm : Nat → LV) (g : LHeap) (h : J27_3 (tm 3) g  K) : codeL Try.prog (Ok Try.prog) (nd27 [1, 1, 1, 1]) ⟨tm, g⟩ (en27 K) := by
  try unfold J27_3 at h
  refine code2_sound ok_mono _ _ _ ?_
  refine kmp ?_ h
  generalize Ok Try.prog = C
  try unfold en27
  as_aux_lemma => kernel_rfl

noncomputable def L27_5 (x17 : LV) (x3 x18 : LV) (g : LHeap) (N5 : LV × LV → LHeap → Prop) (K : LV → LHeap → Prop) : Prop :=
  vK (binL Try.prog .lss 3 true x18 (.int .i64 (8))) fun t19 =>
  ifB t19 (
  vK (indexT Try.prog 60 x17 x18) fun t20 =>
  oK (builtinL Try.prog .len [50] [t20] g) fun t23 g =>
  vK (binL Try.prog .add 3 false x3 t23) fun t24 =>
  vK (binL Try.prog .add 3 true x18 (.int .i64 (1))) fun t25 =>
  N5 (t24, t25) g) (
  J27_3 x3 g  K)
theorem L27_5_ok (R5 : LV → LV × LV → LHeap → Prop) (K : LV → LHeap → Prop) (tm : Nat → LV) (g : LHeap) (h : L27_5 (tm 17) (tm 3) (tm 18) g (fun s g => R5 (tm 17) s g) K) : codeL Try.prog (Ok Try.prog) (nd27 [1, 1, 1, 0, 1, 0, 0]) ⟨tm, g⟩ (roundK (fun tm : Nat → LV => tm 17) (fun tm : Nat → LV => (tm 3, tm 18)) R5 (exitL 0 (thenL (kj27_3  K) (en27 K)))) := by
  try unfold L27_5 at h
  unfold kj27_3
  generalize @J27_3 = Q27_3 at h ⊢
  refine code2_sound ok_mono _ _ _ ?_
  refine kmp ?_ h
  generalize Ok Try.prog = C
  try unfold en27
  as_aux_lemma => kernel_rfl

noncomputable def J27_4 (x3 x17 x18 : LV) (g : LHeap)  (K : LV → LHeap → Prop) : Prop :=
  loopP (fun s g N => L27_5 x17 s.1 s.2 g N  K) (x3, x18) g
abbrev kj27_4  (K : LV → LHeap → Prop) : LSt → Prop := fun st => J27_4 (st.tm 3) (st.tm 17) (st.tm 18) st.g  K
theorem J27_4_ok  (K : LV → LHeap → Prop) (tm : Nat → LV) (g : LHeap) (h : J27_4 (tm 3) (tm 17) (tm 18) g  K) : codeL Try.prog (Ok Try.prog) (nd27 [1, 1, 1, 0, 1]) ⟨tm, g⟩ (thenL (kj27_3  K) (en27 K)) := by
  refine block_i (b := nd27 [1, 1, 1, 0, 1, 0]) (i := 0) (by kernel_rfl) ?_
  exact loop_glue (b := nd27 [1, 1, 1, 0, 1, 0, 0]) (by kernel_rfl) (fun tm : Nat → LV => tm 17) (fun tm : Nat → LV => (tm 3, tm 18)) (fun a s g N => L27_5 a s.1 s.2 g N  K) (fun tm g R h => L27_5_ok R  K tm g h) tm g h

noncomputable def J27_2 (x0 x3 : LV) (g : LHeap)  (K : LV → LHeap → Prop) : Prop :=
  vK (nilCheckL x0) fun t15 =>
  vK (fieldAddrL 4 t15) fun t16 =>
  vK (loadV (some 8) t16 g) fun t17 =>
  J27_4 x3 t17 (.int .i64 (0)) g  K
abbrev kj27_2  (K : LV → LHeap → Prop) : LSt → Prop := fun st => J27_2 (st.tm 0) (st.tm 3) st.g  K
theorem J27_2_ok  (K : LV → LHeap → Prop) (tm : Nat → LV) (g : LHeap) (h : J27_2 (tm 0) (tm 3) g  K) : codeL Try.prog (Ok Try.prog) (nd27 [1, 1, 1]) ⟨tm, g⟩ (en27 K) := by
  refine seq_i (a := nd27 [1, 1, 1, 0]) (b := nd27 [1, 1, 1, 1]) (k' := kj27_3  K) (by kernel_rfl) (fun st h => J27_3_ok  K st.tm st.g h) ?_
  refine seq_i (a := nd27 [1, 1, 1, 0, 0]) (b := nd27 [1, 1, 1, 0, 1]) (k' := kj27_4  K) (by kernel_rfl) (fun st h => J27_4_ok  K st.tm st.g h) ?_
  try unfold J27_2 at h
  unfold kj27_4
  generalize @J27_4 = Q27_4 at h ⊢
  unfold kj27_3
  generalize @J27_3 = Q27_3 at h ⊢
  refine code2_sound ok_mono _ _ _ ?_
  refine kmp ?_ h
  generalize Ok Try.prog = C
  try unfold en27
  as_aux_lemma => kernel_rfl

noncomputable def J27_1 (x0 : LV) (g : LHeap)  (K : LV → LHeap → Prop) : Prop :=
  vK (nilCheckL x0) fun t10 =>
  vK (fieldAddrL 12 t10) fun t11 =>
  vK (loadV none t11 g) fun t12 =>
  oK (builtinL Try.prog .len [50] [t12] g) fun t13 g =>
  J27_2 x0 t13 g  K
abbrev kj27_1  (K : LV → LHeap → Prop) : LSt → Prop := fun st => J27_1 (st.tm 0) st.g  K
theorem J27_1_ok  (K : LV → LHeap → Prop) (tm : Nat → LV) (g : LHeap) (h : J27_1 (tm 0) g  K) : codeL Try.prog (Ok Try.prog) (nd27 [1, 1]) ⟨tm, g⟩ (en27 K) := by
  refine seq_i (a := nd27 [1, 1, 0]) (b := nd27 [1, 1, 1]) (k' := kj27_2  K) (by kernel_rfl) (fun st h => J27_2_ok  K st.tm st.g h) ?_
  try unfold J27_1 at h
  unfold kj27_2
  generalize @J27_2 = Q27_2 at h ⊢
  refine code2_sound ok_mono _ _ _ ?_
  refine kmp ?_ h
  generalize Ok Try.prog = C
  try unfold en27
  as_aux_lemma => kernel_rfl

noncomputable def J27_0 (x0 : LV) (g : LHeap)  (K : LV → LHeap → Prop) : Prop :=
  Ok Try.prog 54 [x0] g fun t7 g =>
  vK (unL .not t7) fun t8 =>
  ifB t8 (
  K (.int .i64 (0)) g) (
  J27_1 x0 g  K)
abbrev kj27_0  (K : LV → LHeap → Prop) : LSt → Prop := fun st => J27_0 (st.tm 0) st.g  K
theorem J27_0_ok  (K : LV → LHeap → Prop) (tm : Nat → LV) (g : LHeap) (h : J27_0 (tm 0) g  K) : codeL Try.prog (Ok Try.prog) (nd27 [1]) ⟨tm, g⟩ (en27 K) := by
  refine seq_i (a := nd27 [1, 0]) (b := nd27 [1, 1]) (k' := kj27_1  K) (by kernel_rfl) (fun st h => J27_1_ok  K st.tm st.g h) ?_
  try unfold J27_0 at h
  unfold kj27_1
  generalize @J27_1 = Q27_1 at h ⊢
  refine code2_sound ok_mono _ _ _ ?_
  refine kmp ?_ h
  generalize Ok Try.prog = C
  try unfold en27
  as_aux_lemma => kernel_rfl

noncomputable def F27 (x0 : LV) (g : LHeap) (K : LV → LHeap → Prop) : Prop :=
  J27_0 x0 g  K
theorem ok27 {x0 : LV} {g : LHeap} {K : LV → LHeap → Prop} (h : g.Wf → (∀ v ∈ ([x0] : List LV), ∀ b ∈ v.objs, b < g.next) → F27 x0 g K) : Ok Try.prog 27 [x0] g K := by
  refine ok_fw Try.mixed Try.func27 (by kernel_rfl) (by kernel_rfl) (c := nd27 []) (by kernel_rfl) fun wf lt => ?_
  rw [← en27_eq]
  replace h := h wf lt
  generalize hs : startL _ = tm
  replace h : F27 (tm 0) g K := by rw [← hs]; exact h
  refine seq_i (a := nd27 [0]) (b := nd27 [1]) (k' := kj27_0  K) (by kernel_rfl) (fun st h => J27_0_ok  K st.tm st.g h) ?_
  try unfold F27 at h
  unfold kj27_0
  generalize @J27_0 = Q27_0 at h ⊢
  refine code2_sound ok_mono _ _ _ ?_
  refine kmp ?_ h
  generalize Ok Try.prog = C
  try unfold en27
  as_aux_lemma => kernel_rfl

/-! (*parapet/frame.Frames).Right (91 slots) -/
noncomputable def en28 (K : LV → LHeap → Prop) : LEx → LSt → Prop := fun e st => match e with
  | .exit _ => False
  | _ => K (st.tm 2) st.g
theorem en28_eq (K : LV → LHeap → Prop) : en28 K = endL Try.prog Try.f28 K := by
  funext e st
  cases e <;> kernel_rfl
noncomputable def nd28 (p : List Nat) : Code := subC p (bodyC Try.prog 28)
noncomputable def J28_4 (x3 : LV) (g : LHeap)  (K : LV → LHeap → Prop) : Prop :=
  vK (loadV none x3 g) fun t88 =>
  Ok Try.prog 62 [t88, (.func (.func 63) [] [])] g fun t89 g =>
  vK (unL .not t89) fun t90 =>
  K t90 g
abbrev kj28_4  (K : LV → LHeap → Prop) : LSt → Prop := fun st => J28_4 (st.tm 3) st.g  K
theorem J28_4_ok  (K : LV → LHeap → Prop) (tm : Nat → LV) (g : LHeap) (h : J28_4 (tm 3) g  K) : codeL Try.prog (Ok Try.prog) (nd28 [1, 1, 1, 1, 1]) ⟨tm, g⟩ (en28 K) := by
  try unfold J28_4 at h
  refine code2_sound ok_mono _ _ _ ?_
  refine kmp ?_ h
  generalize Ok Try.prog = C
  try unfold en28
  as_aux_lemma => kernel_rfl

noncomputable def J28_9 (x1 x3 x52 x53 x54 : LV) (g : LHeap) (N6 : LV → LHeap → Prop) (K : LV → LHeap → Prop) : Prop :=
  vK (binL Try.prog .add 3 true x54 (.int .i64 (1))) fun t87 =>
  N6 t87 g
abbrev kj28_9 (R6 : LV × LV × LV × LV → LV → LHeap → Prop) (K : LV → LHeap → Prop) : LSt → Prop := fun st => J28_9 (st.tm 1) (st.tm 3) (st.tm 52) (st.tm 53) (st.tm 54) st.g (fun s g => R6 ((st.tm 1), (st.tm 3), (st.tm 52), (st.tm 53)) s g) K
theorem J28_9_ok (R6 : LV × LV × LV × LV → LV → LHeap → Prop) (K : LV → LHeap → Prop) (tm : Nat → LV) (g : LHeap) (h : J28_9 (tm 1) (tm 3) (tm 52) (tm 53) (tm 54) g (fun s g => R6 ((tm 1), (tm 3), (tm 52), (tm 53)) s g) K) : codeL Try.prog (Ok Try.prog) (nd28 [1, 1, 1, 1, 0, 1, 0, 0, 1, 1, 1]) ⟨tm, g⟩ (roundK (fun tm : Nat → LV => (tm 1, tm 3, tm 52, tm 53)) (fun tm : Nat → LV => tm 54) R6 (exitL 2 (thenL (kj28_4  K) (en28 K)))) := by
  try unfold J28_9 at h
  unfold kj28_4
  generalize @J28_4 = Q28_4 at h ⊢
  refine code2_sound ok_mono _ _ _ ?_
  refine kmp ?_ h
  generalize Ok Try.prog = C
  try unfold en28
  as_aux_lemma => kernel_rfl

noncomputable def L28_12 (x1 x3 x52 x53 x54 x58 x59 : LV) (x60 : LV) (g : LHeap) (N12 : LV → LHeap → Prop) (N6 : LV → LHeap → Prop) (K : LV → LHeap → Prop) : Prop :=
  vK (binL Try.prog .lss 3 false x60 x59) fun t61 =>
  ifB t61 (
  vK (ixAddrL none 1 x58 x60) fun t62 =>
  vK (loadV none t62 g) fun t63 =>
  vK (loadV none x3 g) fun t64 =>
  vK (loadV none x1 g) fun t66 =>
  vK (nilCheckL t66) fun t67 =>
  vK (fieldAddrL 1 t67) fun t68 =>
  vK (loadV none t68 g) fun t69 =>
  vK (binL Try.prog .sub 3 false t63 t69) fun t70 =>
  vK (ixAddrL none 1 t64 t70) fun t71 =>
  vK (loadV none t71 g) fun t72 =>
  vK (binL Try.prog .add 3 true t72 (.int .i64 (1))) fun t73 =>
  vK (ixAddrL none 1 t64 t70) fun t74 =>
  ((gK (storeV 1 t74 t73 g) fun g =>
  
  vK (loadV none x1 g) fun t76 =>
  vK (nilCheckL t76) fun t77 =>
  vK (fieldAddrL 0 t77) fun t78 =>
  vK (loadV none t78 g) fun t79 =>
  Ok Try.prog 57 [t79, t63] g fun t81 g =>
  vK (extractL t81 0) fun t82 =>
  vK (extractL t81 1) fun t83 =>
  Ok Try.prog 60 [t82, (.func (.func 61) [] [])] g fun t85 g =>
  ifB t85 (
  K (.bool false) g) (
  vK (binL Try.prog .add 3 true x60 (.int .i64 (1))) fun t86 =>
  N12 t86 g)) ∧ True)) (
  J28_9 x1 x3 x52 x53 x54 g N6 K)
theorem L28_12_ok (R12 : LV × LV × LV × LV × LV × LV × LV → LV → LHeap → Prop) (R6 : LV × LV × LV × LV → LV → LHeap → Prop) (K : LV → LHeap → Prop) (tm : Nat → LV) (g : LHeap) (h : L28_12 (tm 1) (tm 3) (tm 52) (tm 53) (tm 54) (tm 58) (tm 59) (tm 60) g (fun s g => R12 ((tm 1), (tm 3), (tm 52), (tm 53), (tm 54), (tm 58), (tm 59)) s g) (fun s g => R6 ((tm 1), (tm 3), (tm 52), (tm 53)) s g) K) : codeL Try.prog (Ok Try.prog) (nd28 [1, 1, 1, 1, 0, 1, 0, 0, 1, 1, 0, 0, 1, 1, 0, 0]) ⟨tm, g⟩ (roundK (fun tm : Nat → LV => (tm 1, tm 3, tm 52, tm 53, tm 54, tm 58, tm 59)) (fun tm : Nat → LV => tm 60) R12 (exitL 4 (exitL 3 (thenL (kj28_9 R6 K) (roundK (fun tm : Nat → LV => (tm 1, tm 3, tm 52, tm 53)) (fun tm : Nat → LV => tm 54) R6 (exitL 2 (thenL (kj28_4  K) (en28 K)))))))) := by
  try unfold L28_12 at h
  unfold kj28_9
  generalize @J28_9 = Q28_9 at h ⊢
  unfold kj28_4
  generalize @J28_4 = Q28_4 at h ⊢
  refine code2_sound ok_mono _ _ _ ?_
  refine kmp ?_ h
  generalize Ok Try.prog = C
  try unfold en28
  as_aux_lemma => kernel_rfl

noncomputable def J28_11 (x1 x3 x52 x53 x54 x58 x59 x60 : LV) (g : LHeap) (N6 : LV → LHeap → Prop) (K : LV → LHeap → Prop) : Prop :=
  loopP (fun s g N => L28_12 x1 x3 x52 x53 x54 x58 x59 s g N N6 K) x60 g
abbrev kj28_11 (R6 : LV × LV × LV × LV → LV → LHeap → Prop) (K : LV → LHeap → Prop) : LSt → Prop := fun st => J28_11 (st.tm 1) (st.tm 3) (st.tm 52) (st.tm 53) (st.tm 54) (st.tm 58) (st.tm 59) (st.tm 60) st.g (fun s g => R6 ((st.tm 1), (st.tm 3), (st.tm 52), (st.tm 53)) s g) K
theorem J28_11_ok (R6 : LV × LV × LV × LV → LV → LHeap → Prop) (K : LV → LHeap → Prop) (tm : Nat → LV) (g : LHeap) (h : J28_11 (tm 1) (tm 3) (tm 52) (tm 53) (tm 54) (tm 58) (tm 59) (tm 60) g (fun s g => R6 ((tm 1), (tm 3), (tm 52), (tm 53)) s g) K) : codeL Try.prog (Ok Try.prog) (nd28 [1, 1, 1, 1, 0, 1, 0, 0, 1, 1, 0, 0, 1, 1]) ⟨tm, g⟩ (exitL 3 (thenL (kj28_9 R6 K) (roundK (fun tm : Nat → LV => (tm 1, tm 3, tm 52, tm 53)) (fun tm : Nat → LV => tm 54) R6 (exitL 2 (thenL (kj28_4  K) (en28 K)))))) := by
  refine block_i (b := nd28 [1, 1, 1, 1, 0, 1, 0, 0, 1, 1, 0, 0, 1, 1, 0]) (i := 4) (by kernel_rfl) ?_
  exact loop_glue (b := nd28 [1, 1, 1, 1, 0, 1, 0, 0, 1, 1, 0, 0, 1, 1, 0, 0]) (by kernel_rfl) (fun tm : Nat → LV => (tm 1, tm 3, tm 52, tm 53, tm 54, tm 58, tm 59)) (fun tm : Nat → LV => tm 60) (fun a s g N => L28_12 a.1 a.2.1 a.2.2.1 a.2.2.2.1 a.2.2.2.2.1 a.2.2.2.2.2.1 a.2.2.2.2.2.2 s g N (fun s g => R6 ((a.1), (a.2.1), (a.2.2.1), (a.2.2.2.1)) s g) K) (fun tm g R h => L28_12_ok R R6 K tm g h) tm g h

noncomputable def J28_10 (x1 x3 x6 x52 x53 x54 : LV) (g : LHeap) (N6 : LV → LHeap → Prop) (K : LV → LHeap → Prop) : Prop :=
  oK (builtinL Try.prog .len [50] [x6] g) fun t59 g =>
  J28_11 x1 x3 x52 x53 x54 x6 t59 (.int .i64 (0)) g N6 K
abbrev kj28_10 (R6 : LV × LV × LV × LV → LV → LHeap → Prop) (K : LV → LHeap → Prop) : LSt → Prop := fun st => J28_10 (st.tm 1) (st.tm 3) (st.tm 6) (st.tm 52) (st.tm 53) (st.tm 54) st.g (fun s g => R6 ((st.tm 1), (st.tm 3), (st.tm 52), (st.tm 53)) s g) K
theorem J28_10_ok (R6 : LV × LV × LV × LV → LV → LHeap → Prop) (K : LV → LHeap → Prop) (tm : Nat → LV) (g : LHeap) (h : J28_10 (tm 1) (tm 3) (tm 6) (tm 52) (tm 53) (tm 54) g (fun s g => R6 ((tm 1), (tm 3), (tm 52), (tm 53)) s g) K) : codeL Try.prog (Ok Try.prog) (nd28 [1, 1, 1, 1, 0, 1, 0, 0, 1, 1, 0, 0, 1]) ⟨tm, g⟩ (exitL 3 (thenL (kj28_9 R6 K) (roundK (fun tm : Nat → LV => (tm 1, tm 3, tm 52, tm 53)) (fun tm : Nat → LV => tm 54) R6 (exitL 2 (thenL (kj28_4  K) (en28 K)))))) := by
  refine seq_i (a := nd28 [1, 1, 1, 1, 0, 1, 0, 0, 1, 1, 0, 0, 1, 0]) (b := nd28 [1, 1, 1, 1, 0, 1, 0, 0, 1, 1, 0, 0, 1, 1]) (k' := kj28_11 R6 K) (by kernel_rfl) (fun st h => J28_11_ok R6 K st.tm st.g h) ?_
  try unfold J28_10 at h
  unfold kj28_11
  generalize @J28_11 = Q28_11 at h ⊢
  unfold kj28_9
  generalize @J28_9 = Q28_9 at h ⊢
  unfold kj28_4
  generalize @J28_4 = Q28_4 at h ⊢
  refine code2_sound ok_mono _ _ _ ?_
  refine kmp ?_ h
  generalize Ok Try.prog = C
  try unfold en28
  as_aux_lemma => kernel_rfl

noncomputable def J28_8 (x1 x3 x52 x53 x54 : LV) (g : LHeap) (N6 : LV → LHeap → Prop) (K : LV → LHeap → Prop) : Prop :=
  vK (ixAddrL none 1 x52 x54) fun t56 =>
  vK (loadV none t56 g) fun t57 =>
  J28_10 x1 x3 t57 x52 x53 x54 g N6 K
abbrev kj28_8 (R6 : LV × LV × LV × LV → LV → LHeap → Prop) (K : LV → LHeap → Prop) : LSt → Prop := fun st => J28_8 (st.tm 1) (st.tm 3) (st.tm 52) (st.tm 53) (st.tm 54) st.g (fun s g => R6 ((st.tm 1), (st.tm 3), (st.tm 52), (st.tm 53)) s g) K
theorem J28_8_ok (R6 : LV × LV × LV × LV → LV → LHeap → Prop) (K : LV → LHeap → Prop) (tm : Nat → LV) (g : LHeap) (h : J28_8 (tm 1) (tm 3) (tm 52) (tm 53) (tm 54) g (fun s g => R6 ((tm 1), (tm 3), (tm 52), (tm 53)) s g) K) : codeL Try.prog (Ok Try.prog) (nd28 [1, 1, 1, 1, 0, 1, 0, 0, 1, 1]) ⟨tm, g⟩ (roundK (fun tm : Nat → LV => (tm 1, tm 3, tm 52, tm 53)) (fun tm : Nat → LV => tm 54) R6 (exitL 2 (thenL (kj28_4  K) (en28 K)))) := by
  refine seq_i (a := nd28 [1, 1, 1, 1, 0, 1, 0, 0, 1, 1, 0]) (b := nd28 [1, 1, 1, 1, 0, 1, 0, 0, 1, 1, 1]) (k' := kj28_9 R6 K) (by kernel_rfl) (fun st h => J28_9_ok R6 K st.tm st.g h) ?_
  refine block_i (b := nd28 [1, 1, 1, 1, 0, 1, 0, 0, 1, 1, 0, 0]) (i := 3) (by kernel_rfl) ?_
  refine seq_i (a := nd28 [1, 1, 1, 1, 0, 1, 0, 0, 1, 1, 0, 0, 0]) (b := nd28 [1, 1, 1, 1, 0, 1, 0, 0, 1, 1, 0, 0, 1]) (k' := kj28_10 R6 K) (by kernel_rfl) (fun st h => J28_10_ok R6 K st.tm st.g h) ?_
  try unfold J28_8 at h
  unfold kj28_10
  generalize @J28_10 = Q28_10 at h ⊢
  unfold kj28_9
  generalize @J28_9 = Q28_9 at h ⊢
  unfold kj28_4
  generalize @J28_4 = Q28_4 at h ⊢
  refine code2_sound ok_mono _ _ _ ?_
  refine kmp ?_ h
  generalize Ok Try.prog = C
  try unfold en28
  as_aux_lemma => kernel_rfl

noncomputable def J28_7 (x1 x3 x52 x53 x54 x55 : LV) (g : LHeap) (N6 : LV → LHeap → Prop) (K : LV → LHeap → Prop) : Prop :=
  ifB x55 (
  J28_8 x1 x3 x52 x53 x54 g N6 K) (
  J28_4 x3 g  K)
abbrev kj28_7 (R6 : LV × LV × LV × LV → LV → LHeap → Prop) (K : LV → LHeap → Prop) : LSt → Prop := fun st => J28_7 (st.tm 1) (st.tm 3) (st.tm 52) (st.tm 53) (st.tm 54) (st.tm 55) st.g (fun s g => R6 ((st.tm 1), (st.tm 3), (st.tm 52), (st.tm 53)) s g) K
theorem J28_7_ok (R6 : LV × LV × LV × LV → LV → LHeap → Prop) (K : LV → LHeap → Prop) (tm : Nat → LV) (g : LHeap) (h : J28_7 (tm 1) (tm 3) (tm 52) (tm 53) (tm 54) (tm 55) g (fun s g => R6 ((tm 1), (tm 3), (tm 52), (tm 53)) s g) K) : codeL Try.prog (Ok Try.prog) (nd28 [1, 1, 1, 1, 0, 1, 0, 0, 1]) ⟨tm, g⟩ (roundK (fun tm : Nat → LV => (tm 1, tm 3, tm 52, tm 53)) (fun tm : Nat → LV => tm 54) R6 (exitL 2 (thenL (kj28_4  K) (en28 K)))) := by
  refine seq_i (a := nd28 [1, 1, 1, 1, 0, 1, 0, 0, 1, 0]) (b := nd28 [1, 1, 1, 1, 0, 1, 0, 0, 1, 1]) (k' := kj28_8 R6 K) (by kernel_rfl) (fun st h => J28_8_ok R6 K st.tm st.g h) ?_
  try unfold J28_7 at h
  unfold kj28_8
  generalize @J28_8 = Q28_8 at h ⊢
  unfold kj28_4
  generalize @J28_4 = Q28_4 at h ⊢
  refine code2_sound ok_mono _ _ _ ?_
  refine kmp ?_ h
  generalize Ok Try.prog = C
  try unfold en28
  as_aux_lemma => kernel_rfl

noncomputable def L28_6 (x1 x3 x52 x53 : LV) (x54 : LV) (g : LHeap) (N6 : LV → LHeap → Prop) (K : LV → LHeap → Prop) : Prop :=
  vK (binL Try.prog .lss 3 false x54 x53) fun t55 =>
  J28_7 x1 x3 x52 x53 x54 t55 g N6 K
theorem L28_6_ok (R6 : LV × LV × LV × LV → LV → LHeap → Prop) (K : LV → LHeap → Prop) (tm : Nat → LV) (g : LHeap) (h : L28_6 (tm 1) (tm 3) (tm 52) (tm 53) (tm 54) g (fun s g => R6 ((tm 1), (tm 3), (tm 52), (tm 53)) s g) K) : codeL Try.prog (Ok Try.prog) (nd28 [1, 1, 1, 1, 0, 1, 0, 0]) ⟨tm, g⟩ (roundK (fun tm : Nat → LV => (tm 1, tm 3, tm 52, tm 53)) (fun tm : Nat → LV => tm 54) R6 (exitL 2 (thenL (kj28_4  K) (en28 K)))) := by
  refine seq_i (a := nd28 [1, 1, 1, 1, 0, 1, 0, 0, 0]) (b := nd28 [1, 1, 1, 1, 0, 1, 0, 0, 1]) (k' := kj28_7 R6 K) (by kernel_rfl) (fun st h => J28_7_ok R6 K st.tm st.g h) ?_
  try unfold L28_6 at h
  unfold kj28_7
  generalize @J28_7 = Q28_7 at h ⊢
  unfold kj28_4
  generalize @J28_4 = Q28_4 at h ⊢
  refine code2_sound ok_mono _ _ _ ?_
  refine kmp ?_ h
  generalize Ok Try.prog = C
  try unfold en28
  as_aux_lemma => kernel_rfl

noncomputable def J28_5 (x1 x3 x52 x53 x54 : LV) (g : LHeap)  (K : LV → LHeap → Prop) : Prop :=
  loopP (fun s g N => L28_6 x1 x3 x52 x53 s g N  K) x54 g
abbrev kj28_5  (K : LV → LHeap → Prop) : LSt → Prop := fun st => J28_5 (st.tm 1) (st.tm 3) (st.tm 52) (st.tm 53) (st.tm 54) st.g  K
theorem J28_5_ok  (K : LV → LHeap → Prop) (tm : Nat → LV) (g : LHeap) (h : J28_5 (tm 1) (tm 3) (tm 52) (tm 53) (tm 54) g  K) : codeL Try.prog (Ok Try.prog) (nd28 [1, 1, 1, 1, 0, 1]) ⟨tm, g⟩ (thenL (kj28_4  K) (en28 K)) := by
  refine block_i (b := nd28 [1, 1, 1, 1, 0, 1, 0]) (i := 2) (by kernel_rfl) ?_
  exact loop_glue (b := nd28 [1, 1, 1, 1, 0, 1, 0, 0]) (by kernel_rfl) (fun tm : Nat → LV => (tm 1, tm 3, tm 52, tm 53)) (fun tm : Nat → LV => tm 54) (fun a s g N => L28_6 a.1 a.2.1 a.2.2.1 a.2.2.2 s g N  K) (fun tm g R h => L28_6_ok R  K tm g h) tm g h

noncomputable def J28_3 (x1 x3 : LV) (g : LHeap)  (K : LV → LHeap → Prop) : Prop :=
  vK (loadV none x1 g) fun t35 =>
  vK (nilCheckL t35) fun t36 =>
  vK (fieldAddrL 4 t36) fun t37 =>
  vK (loadV none x1 g) fun t38 =>
  vK (nilCheckL t38) fun t39 =>
  vK (fieldAddrL 2 t39) fun t40 =>
  vK (loadV none t40 g) fun t41 =>
  vK (loadV none x1 g) fun t42 =>
  vK (nilCheckL t42) fun t43 =>
  vK (fieldAddrL 2 t43) fun t44 =>
  vK (loadV none t44 g) fun t45 =>
  vK (cutT Try.prog 60 t37 none (some t41) (some t45) (limL t37 g)) fun t46 =>
  vK (loadV none x1 g) fun t47 =>
  vK (nilCheckL t47) fun t48 =>
  vK (fieldAddrL 12 t48) fun t49 =>
  vK (loadV none t49 g) fun t50 =>
  ((oK (buildSliceL Try.prog 103 1 [(0, t50)] g) fun t51 g =>
  ((loadV none t44 g) = some t45 ∧ ((loadV none x1 g) = some t42 ∧ ((loadV none t40 g) = some t41 ∧ ((loadV none x1 g) = some t38 ∧ ((loadV none x1 g) = some t35 ∧ 
  ((oK (builtinL Try.prog .append [103, 103] [t46, t51] g) fun t52 g =>
  
  vK (lenL Try.prog 103 t52 g) fun t53 =>
  J28_5 x1 x3 t52 t53 (.int .i64 (0)) g  K) ∧ True))))))) ∧ True)
abbrev kj28_3  (K : LV → LHeap → Prop) : LSt → Prop := fun st => J28_3 (st.tm 1) (st.tm 3) st.g  K
theorem J28_3_ok  (K : LV → LHeap → Prop) (tm : Nat → LV) (g : LHeap) (h : J28_3 (tm 1) (tm 3) g  K) : codeL Try.prog (Ok Try.prog) (nd28 [1, 1, 1, 1]) ⟨tm, g⟩ (en28 K) := by
  refine seq_i (a := nd28 [1, 1, 1, 1, 0]) (b := nd28 [1, 1, 1, 1, 1]) (k' := kj28_4  K) (by kernel_rfl) (fun st h => J28_4_ok  K st.tm st.g h) ?_
  refine seq_i (a := nd28 [1, 1, 1, 1, 0, 0]) (b := nd28 [1, 1, 1, 1, 0, 1]) (k' := kj28_5  K) (by kernel_rfl) (fun st h => J28_5_ok  K st.tm st.g h) ?_
  try unfold J28_3 at h
  unfold kj28_5
  generalize @J28_5 = Q28_5 at h ⊢
  unfold kj28_4
  generalize @J28_4 = Q28_4 at h ⊢
  refine code3_sound ok_mono (pl := [(7, (.lt 0 true (.lt 1 false (.lt 2 false (.lt 3 true (.lt 4 false (.lt 5 false (.lt 6 true (.lt 7 true (.lt 8 false (.lt 9 false (.lt 10 true (.lt 11 false (.lt 12 false (.lt 13 false (.lt 14 false (.lt 15 false (.lt 19 false (.hv 16 (.hv 17 (.lt 18 false .nil) .nil) .nil)))))))))))))))))))]) _ _ _ (by kernel_rfl) ?_
  refine kmp ?_ h
  generalize Ok Try.prog = C
  try unfold en28
  as_aux_lemma => kernel_rfl

noncomputable def B28_14 (x1 x3 x4 : LV) (g : LHeap) (K : LV → LHeap → Prop) : Prop :=
  vK (loadV none x3 g) fun t24 =>
  vK (loadV none x1 g) fun t26 =>
  vK (nilCheckL t26) fun t27 =>
  vK (fieldAddrL 1 t27) fun t28 =>
  vK (loadV none t28 g) fun t29 =>
  vK (binL Try.prog .sub 3 false x4 t29) fun t30 =>
  vK (ixAddrL none 1 t24 t30) fun t31 =>
  vK (loadV none t31 g) fun t32 =>
  vK (binL Try.prog .add 3 true t32 (.int .i64 (1))) fun t33 =>
  vK (ixAddrL none 1 t24 t30) fun t34 =>
  ((gK (storeV 1 t34 t33 g) fun g =>
  
  K (.bool true) g) ∧ True)
theorem B28_14_ok (K : LV → LHeap → Prop) (tm : Nat → LV) (g : LHeap) (h : B28_14 (tm 1) (tm 3) (tm 4) g K) : codeL Try.prog (Ok Try.prog) (nd28 [1, 1, 1, 0, 1, 0, 1]) ⟨tm, g⟩ (rkE K) := by
  try unfold B28_14 at h
  refine code2_sound ok_mono _ _ _ ?_
  refine kmp ?_ h
  generalize Ok Try.prog = C
  try unfold en28
  as_aux_lemma => kernel_rfl

noncomputable def R28_14 (x1 x3 x22 x23 : LV) (rl : Nat) (g : LHeap) (K : LV → LHeap → Prop) : Prop :=
  beginP rl g fun g =>
  B28_14 x1 x3 x22 g (endK rl K)
theorem R28_14_ok (K : LV → LHeap → Prop) (tm : Nat → LV) (rl : Nat) (y0 y1 : LV) (g : LHeap) (h : R28_14 (tm 1) (tm 3) y0 y1 rl g K) : codeL Try.prog (Ok Try.prog) (nd28 [1, 1, 1, 0, 1, 0, 0]) ⟨putAll tm [(22, y0), (23, y1)], g⟩ (roundB Try.prog (Ok Try.prog) rl (nd28 [1, 1, 1, 0, 1, 0, 1]) K) := by
  refine round_glue (fun st => B28_14 (st.tm 1) (st.tm 3) (st.tm 4) st.g (endK rl K)) (fun st h => B28_14_ok (endK rl K) st.tm st.g h) ?_
  try unfold R28_14 at h
  refine code2_sound ok_mono _ _ _ ?_
  refine kmp ?_ h
  generalize Ok Try.prog = C
  try unfold en28
  as_aux_lemma => kernel_rfl

noncomputable def J28_13 (x1 x3 x21 : LV) (g : LHeap)  (K : LV → LHeap → Prop) : Prop :=
  rangeP Try.prog x21 g (fun rl zs g K => ∃ y0, ∃ y1, zs = [y0, y1] ∧ R28_14 x1 x3 y0 y1 rl g K) (fun g => J28_3 x1 x3 g  K) (fun id g => False) (fun g => False)
abbrev kj28_13  (K : LV → LHeap → Prop) : LSt → Prop := fun st => J28_13 (st.tm 1) (st.tm 3) (st.tm 21) st.g  K
theorem J28_13_ok  (K : LV → LHeap → Prop) (tm : Nat → LV) (g : LHeap) (h : J28_13 (tm 1) (tm 3) (tm 21) g  K) : codeL Try.prog (Ok Try.prog) (nd28 [1, 1, 1, 0, 1]) ⟨tm, g⟩ (thenL (kj28_3  K) (en28 K)) := by
  refine block_i (b := nd28 [1, 1, 1, 0, 1, 0]) (i := 0) (by kernel_rfl) ?_
  exact range_glue Try.mixed (f := .tmp 21) (ps := #[22, 23]) (asg := nd28 [1, 1, 1, 0, 1, 0, 0]) (body := nd28 [1, 1, 1, 0, 1, 0, 1]) (by kernel_rfl) (fun tm : Nat → LV => (tm 1, tm 3)) (fun a => (fun rl zs g K => ∃ y0, ∃ y1, zs = [y0, y1] ∧ R28_14 a.1 a.2 y0 y1 rl g K)) (fun tm rl zs g K h => by
    obtain ⟨y0, y1, rfl, h⟩ := h
    exact ⟨rfl, R28_14_ok K tm rl y0 y1 g h⟩) tm g (fun _ h => h) (fun _ _ h => h.elim) (fun _ h => h.elim) h

noncomputable def J28_2 (x1 x3 : LV) (g : LHeap)  (K : LV → LHeap → Prop) : Prop :=
  vK (loadV none x1 g) fun t20 =>
  Ok Try.prog 33 [t20] g fun t21 g =>
  J28_13 x1 x3 t21 g  K
abbrev kj28_2  (K : LV → LHeap → Prop) : LSt → Prop := fun st => J28_2 (st.tm 1) (st.tm 3) st.g  K
theorem J28_2_ok  (K : LV → LHeap → Prop) (tm : Nat → LV) (g : LHeap) (h : J28_2 (tm 1) (tm 3) g  K) : codeL Try.prog (Ok Try.prog) (nd28 [1, 1, 1]) ⟨tm, g⟩ (en28 K) := by
  refine seq_i (a := nd28 [1, 1, 1, 0]) (b := nd28 [1, 1, 1, 1]) (k' := kj28_3  K) (by kernel_rfl) (fun st h => J28_3_ok  K st.tm st.g h) ?_
  refine seq_i (a := nd28 [1, 1, 1, 0, 0]) (b := nd28 [1, 1, 1, 0, 1]) (k' := kj28_13  K) (by kernel_rfl) (fun st h => J28_13_ok  K st.tm st.g h) ?_
  try unfold J28_2 at h
  unfold kj28_13
  generalize @J28_13 = Q28_13 at h ⊢
  unfold kj28_3
  generalize @J28_3 = Q28_3 at h ⊢
  refine code2_sound ok_mono _ _ _ ?_
  refine kmp ?_ h
  generalize Ok Try.prog = C
  try unfold en28
  as_aux_lemma => kernel_rfl

noncomputable def J28_1 (x1 : LV) (g : LHeap)  (K : LV → LHeap → Prop) : Prop :=
  vK (loadV none x1 g) fun t14 =>
  vK (nilCheckL t14) fun t15 =>
  vK (fieldAddrL 3 t15) fun t16 =>
  vK (loadV none t16 g) fun t17 =>
  oK (builtinL Try.prog .len [50] [t17] g) fun t18 g =>
  oK (makeSliceL Try.prog 50 t18 t18 g) fun t19 g =>
  oK (newL .nils g) fun t3 g =>
  gK (storeV 1 t3 t19 g) fun g =>
  J28_2 x1 t3 g  K
abbrev kj28_1  (K : LV → LHeap → Prop) : LSt → Prop := fun st => J28_1 (st.tm 1) st.g  K
theorem J28_1_ok  (K : LV → LHeap → Prop) (tm : Nat → LV) (g : LHeap) (h : J28_1 (tm 1) g  K) : codeL Try.prog (Ok Try.prog) (nd28 [1, 1]) ⟨tm, g⟩ (en28 K) := by
  refine seq_i (a := nd28 [1, 1, 0]) (b := nd28 [1, 1, 1]) (k' := kj28_2  K) (by kernel_rfl) (fun st h => J28_2_ok  K st.tm st.g h) ?_
  try unfold J28_1 at h
  unfold kj28_2
  generalize @J28_2 = Q28_2 at h ⊢
  refine code2_sound ok_mono _ _ _ ?_
  refine kmp ?_ h
  generalize Ok Try.prog = C
  try unfold en28
  as_aux_lemma => kernel_rfl

noncomputable def J28_0 (x1 : LV) (g : LHeap)  (K : LV → LHeap → Prop) : Prop :=
  vK (loadV none x1 g) fun t11 =>
  Ok Try.prog 54 [t11] g fun t12 g =>
  vK (unL .not t12) fun t13 =>
  ifB t13 (
  K (.bool false) g) (
  J28_1 x1 g  K)
abbrev kj28_0  (K : LV → LHeap → Prop) : LSt → Prop := fun st => J28_0 (st.tm 1) st.g  K
theorem J28_0_ok  (K : LV → LHeap → Prop) (tm : Nat → LV) (g : LHeap) (h : J28_0 (tm 1) g  K) : codeL Try.prog (Ok Try.prog) (nd28 [1]) ⟨tm, g⟩ (en28 K) := by
  refine seq_i (a := nd28 [1, 0]) (b := nd28 [1, 1]) (k' := kj28_1  K) (by kernel_rfl) (fun st h => J28_1_ok  K st.tm st.g h) ?_
  try unfold J28_0 at h
  unfold kj28_1
  generalize @J28_1 = Q28_1 at h ⊢
  refine code2_sound ok_mono _ _ _ ?_
  refine kmp ?_ h
  generalize Ok Try.prog = C
  try unfold en28
  as_aux_lemma => kernel_rfl

noncomputable def F28 (x0 : LV) (g : LHeap) (K : LV → LHeap → Prop) : Prop :=
  oK (newL x0 g) fun t1 g =>
  J28_0 t1 g  K
theorem ok28 {x0 : LV} {g : LHeap} {K : LV → LHeap → Prop} (h : g.Wf → (∀ v ∈ ([x0] : List LV), ∀ b ∈ v.objs, b < g.next) → F28 x0 g K) : Ok Try.prog 28 [x0] g K := by
  refine ok_fw Try.mixed Try.func28 (by kernel_rfl) (by kernel_rfl) (c := nd28 []) (by kernel_rfl) fun wf lt => ?_
  rw [← en28_eq]
  replace h := h wf lt
  generalize hs : startL _ = tm
  replace h : F28 (tm 0) g K := by rw [← hs]; exact h
  refine seq_i (a := nd28 [0]) (b := nd28 [1]) (k' := kj28_0  K) (by kernel_rfl) (fun st h => J28_0_ok  K st.tm st.g h) ?_
  try unfold F28 at h
  unfold kj28_0
  generalize @J28_0 = Q28_0 at h ⊢
  refine code2_sound ok_mono _ _ _ ?_
  refine kmp ?_ h
  generalize Ok Try.prog = C
  try unfold en28
  as_aux_lemma => kernel_rfl

/-! (*parapet/frame.Frames).Incr (33 slots) -/
noncomputable def en29 (K : LV → LHeap → Prop) : LEx → LSt → Prop := fun e st => match e with
  | .exit _ => False
  | _ => K (st.tm 4) st.g
theorem en29_eq (K : LV → LHeap → Prop) : en29 K = endL Try.prog Try.f29 K := by
  funext e st
  cases e <;> kernel_rfl
noncomputable def nd29 (p : List Nat) : Code := subC p (bodyC Try.prog 29)
noncomputable def F29 (x0 x1 : LV) (g : LHeap) (K : LV → LHeap → Prop) : Prop :=
  Ok Try.prog 30 [x0, x1] g fun t8 g =>
  Ok Try.prog 54 [x0] g fun t11 g =>
  vK (unL .not t11) fun t12 =>
  ifB t12 (
  K (.int .i64 (6)) g) (
  vK (binL Try.prog .eql 3 true t8 (.int .i64 (0))) fun t15 =>
  ifB t15 (
  K (.int .i64 (60)) g) (
  vK (binL Try.prog .geq 3 true t8 (.int .i64 (1048576))) fun t18 =>
  ifB t18 (
  K (.int .i64 (2)) g) (
  vK (nilCheckL x0) fun t20 =>
  vK (fieldAddrL 3 t20) fun t21 =>
  vK (loadV none t21 g) fun t22 =>
  vK (nilCheckL x0) fun t25 =>
  vK (fieldAddrL 1 t25) fun t26 =>
  vK (loadV none t26 g) fun t27 =>
  vK (binL Try.prog .sub 3 false x1 t27) fun t28 =>
  vK (ixAddrL none 1 t22 t28) fun t29 =>
  vK (loadV none t29 g) fun t30 =>
  vK (binL Try.prog .add 3 true t30 (.int .i64 (1))) fun t31 =>
  vK (ixAddrL none 1 t22 t28) fun t32 =>
  ((gK (storeV 1 t32 t31 g) fun g =>
  
  K (.int .i64 (0)) g) ∧ True))))
theorem ok29 {x0 x1 : LV} {g : LHeap} {K : LV → LHeap → Prop} (h : g.Wf → (∀ v ∈ ([x0, x1] : List LV), ∀ b ∈ v.objs, b < g.next) → F29 x0 x1 g K) : Ok Try.prog 29 [x0, x1] g K := by
  refine ok_fw Try.mixed Try.func29 (by kernel_rfl) (by kernel_rfl) (c := nd29 []) (by kernel_rfl) fun wf lt => ?_
  rw [← en29_eq]
  replace h := h wf lt
  generalize hs : startL _ = tm
  replace h : F29 (tm 0) (tm 1) g K := by rw [← hs]; exact h
  try unfold F29 at h
  refine code3_sound ok_mono (pl := [(8, (.lt 0 false (.lt 1 false (.lt 2 false (.lt 3 false (.lt 4 false (.lt 5 false (.lt 6 false (.lt 7 false (.lt 8 false (.lt 9 false (.lt 10 false (.lt 11 false (.lt 12 false (.lt 13 false (.hv 14 .nil .nil))))))))))))))))]) _ _ _ (by kernel_rfl) ?_
  refine kmp ?_ h
  generalize Ok Try.prog = C
  try unfold en29
  as_aux_lemma => kernel_rfl

/-! (*parapet/frame.Frames).Count (42 slots) -/
noncomputable def en30 (K : LV → LHeap → Prop) : LEx → LSt → Prop := fun e st => match e with
  | .exit _ => False
  | _ => K (st.tm 4) st.g
theorem en30_eq (K : LV → LHeap → Prop) : en30 K = endL Try.prog Try.f30 K := by
  funext e st
  cases e <;> kernel_rfl
noncomputable def nd30 (p : List Nat) : Code := subC p (bodyC Try.prog 30)
noncomputable def J30_1 (x0 x1 : LV) (g : LHeap)  (K : LV → LHeap → Prop) : Prop :=
  vK (nilCheckL x0) fun t31 =>
  vK (fieldAddrL 3 t31) fun t32 =>
  vK (loadV none t32 g) fun t33 =>
  vK (nilCheckL x0) fun t36 =>
  vK (fieldAddrL 1 t36) fun t37 =>
  vK (loadV none t37 g) fun t38 =>
  vK (binL Try.prog .sub 3 false x1 t38) fun t39 =>
  vK (ixAddrL none 1 t33 t39) fun t40 =>
  vK (loadV none t40 g) fun t41 =>
  K t41 g
abbrev kj30_1  (K : LV → LHeap → Prop) : LSt → Prop := fun st => J30_1 (st.tm 0) (st.tm 1) st.g  K
theorem J30_1_ok  (K : LV → LHeap → Prop) (tm : Nat → LV) (g : LHeap) (h : J30_1 (tm 0) (tm 1) g  K) : codeL Try.prog (Ok Try.prog) (nd30 [1, 1]) ⟨tm, g⟩ (en30 K) := by
  try unfold J30_1 at h
  refine code3_sound ok_mono (pl := [(3, (.lt 0 false (.lt 1 false (.lt 2 false (.lt 3 false (.lt 4 false (.lt 5 false (.lt 6 false (.lt 7 false (.lt 8 false (.lt 9 false (.lt 10 false (.lt 11 false (.lt 12 false .nil))))))))))))))]) _ _ _ (by kernel_rfl) ?_
  refine kmp ?_ h
  generalize Ok Try.prog = C
  try unfold en30
  as_aux_lemma => kernel_rfl

noncomputable def J30_0 (x0 x1 : LV) (g : LHeap)  (K : LV → LHeap → Prop) : Prop :=
  ((Ok Try.prog 54 [x0] g fun t6 g =>
  
  vK (unL .not t6) fun t7 =>
  gdV t7 false (some x1) fun t9 =>
  gdV t7 false (some x0) fun t10 =>
  gdV t7 false (nilCheckL t10) fun t11 =>
  gdV t7 false (fieldAddrL 1 t11) fun t12 =>
  gdD t7 false (loadV none t12 g) (fun t13 =>
  gdV t7 false (binL Try.prog .lss 3 false t9 t13) fun t14 =>
  vK (pickL t7 (.bool true) t14) fun t15 =>
  gdV t15 false (some x1) fun t17 =>
  gdV t15 false (some x0) fun t18 =>
  gdV t15 false (nilCheckL t18) fun t19 =>
  gdV t15 false (fieldAddrL 1 t19) fun t20 =>
  gdD t15 false (loadV none t20 g) (fun t21 =>
  gdV t15 false (binL Try.prog .sub 3 false t17 t21) fun t22 =>
  gdV t15 false (some x0) fun t23 =>
  gdV t15 false (nilCheckL t23) fun t24 =>
  gdV t15 false (fieldAddrL 3 t24) fun t25 =>
  gdD t15 false (loadV none t25 g) (fun t26 =>
  gdV t15 false (lenL Try.prog 50 t26 g) fun t27 =>
  gdV t15 false (binL Try.prog .geq 3 false t22 t27) fun t28 =>
  vK (pickL t15 (.bool true) t28) fun t29 =>
  ifB t29 (
  K (.int .i64 (0)) g) (
  J30_1 x0 x1 g  K)) (
  gdV t15 false (lenL Try.prog 50 undefL g) fun t27 =>
  gdV t15 false (binL Try.prog .geq 3 false t22 t27) fun t28 =>
  vK (pickL t15 (.bool true) t28) fun t29 =>
  ifB t29 (
  K (.int .i64 (0)) g) (
  J30_1 x0 x1 g  K))) (
  gdV t15 false (binL Try.prog .sub 3 false t17 undefL) fun t22 =>
  gdV t15 false (some x0) fun t23 =>
  gdV t15 false (nilCheckL t23) fun t24 =>
  gdV t15 false (fieldAddrL 3 t24) fun t25 =>
  gdD t15 false (loadV none t25 g) (fun t26 =>
  gdV t15 false (lenL Try.prog 50 t26 g) fun t27 =>
  gdV t15 false (binL Try.prog .geq 3 false t22 t27) fun t28 =>
  vK (pickL t15 (.bool true) t28) fun t29 =>
  ifB t29 (
  K (.int .i64 (0)) g) (
  J30_1 x0 x1 g  K)) (
  gdV t15 false (lenL Try.prog 50 undefL g) fun t27 =>
  gdV t15 false (binL Try.prog .geq 3 false t22 t27) fun t28 =>
  vK (pickL t15 (.bool true) t28) fun t29 =>
  ifB t29 (
  K (.int .i64 (0)) g) (
  J30_1 x0 x1 g  K)))) (
  gdV t7 false (binL Try.prog .lss 3 false t9 undefL) fun t14 =>
  vK (pickL t7 (.bool true) t14) fun t15 =>
  gdV t15 false (some x1) fun t17 =>
  gdV t15 false (some x0) fun t18 =>
  gdV t15 false (nilCheckL t18) fun t19 =>
  gdV t15 false (fieldAddrL 1 t19) fun t20 =>
  gdD t15 false (loadV none t20 g) (fun t21 =>
  gdV t15 false (binL Try.prog .sub 3 false t17 t21) fun t22 =>
  gdV t15 false (some x0) fun t23 =>
  gdV t15 false (nilCheckL t23) fun t24 =>
  gdV t15 false (fieldAddrL 3 t24) fun t25 =>
  gdD t15 false (loadV none t25 g) (fun t26 =>
  gdV t15 false (lenL Try.prog 50 t26 g) fun t27 =>
  gdV t15 false (binL Try.prog .geq 3 false t22 t27) fun t28 =>
  vK (pickL t15 (.bool true) t28) fun t29 =>
  ifB t29 (
  K (.int .i64 (0)) g) (
  J30_1 x0 x1 g  K)) (
  gdV t15 false (lenL Try.prog 50 undefL g) fun t27 =>
  gdV t15 false (binL Try.prog .geq 3 false t22 t27) fun t28 =>
  vK (pickL t15 (.bool true) t28) fun t29 =>
  ifB t29 (
  K (.int .i64 (0)) g) (
  J30_1 x0 x1 g  K))) (
  gdV t15 false (binL Try.prog .sub 3 false t17 undefL) fun t22 =>
  gdV t15 false (some x0) fun t23 =>
  gdV t15 false (nilCheckL t23) fun t24 =>
  gdV t15 false (fieldAddrL 3 t24) fun t25 =>
  gdD t15 false (loadV none t25 g) (fun t26 =>
  gdV t15 false (lenL Try.prog 50 t26 g) fun t27 =>
  gdV t15 false (binL Try.prog .geq 3 false t22 t27) fun t28 =>
  vK (pickL t15 (.bool true) t28) fun t29 =>
  ifB t29 (
  K (.int .i64 (0)) g) (
  J30_1 x0 x1 g  K)) (
  gdV t15 false (lenL Try.prog 50 undefL g) fun t27 =>
  gdV t15 false (binL Try.prog .geq 3 false t22 t27) fun t28 =>
  vK (pickL t15 (.bool true) t28) fun t29 =>
  ifB t29 (
  K (.int .i64 (0)) g) (
  J30_1 x0 x1 g  K))))) ∧ True)
abbrev kj30_0  (K : LV → LHeap → Prop) : LSt → Prop := fun st => J30_0 (st.tm 0) (st.tm 1) st.g  K
theorem J30_0_ok  (K : LV → LHeap → Prop) (tm : Nat → LV) (g : LHeap) (h : J30_0 (tm 0) (tm 1) g  K) : codeL Try.prog (Ok Try.prog) (nd30 [1]) ⟨tm, g⟩ (en30 K) := by
  refine seq_i (a := nd30 [1, 0]) (b := nd30 [1, 1]) (k' := kj30_1  K) (by kernel_rfl) (fun st h => J30_1_ok  K st.tm st.g h) ?_
  try unfold J30_0 at h
  unfold kj30_1
  generalize @J30_1 = Q30_1 at h ⊢
  refine code3_sound ok_mono (pl := [(1, (.lt 0 false (.hv 1 (.lt 2 false (.lt 3 false (.lt 4 false (.lt 5 false (.lt 6 false (.lt 7 false (.lt 8 true (.lt 9 false (.lt 10 false (.lt 11 false (.lt 12 false (.lt 13 false (.lt 14 false (.lt 15 false (.lt 16 true (.lt 17 false (.lt 18 false (.lt 19 false (.lt 20 false (.lt 21 true (.lt 22 false (.lt 23 false (.lt 24 false .nil))))))))))))))))))))))) .nil)))]) _ _ _ (by kernel_rfl) ?_
  refine kmp ?_ h
  generalize Ok Try.prog = C
  try unfold en30
  as_aux_lemma => kernel_rfl

noncomputable def F30 (x0 x1 : LV) (g : LHeap) (K : LV → LHeap → Prop) : Prop :=
  J30_0 x0 x1 g  K
theorem ok30 {x0 x1 : LV} {g : LHeap} {K : LV → LHeap → Prop} (h : g.Wf → (∀ v ∈ ([x0, x1] : List LV), ∀ b ∈ v.objs, b < g.next) → F30 x0 x1 g K) : Ok Try.prog 30 [x0, x1] g K := by
  refine ok_fw Try.mixed Try.func30 (by kernel_rfl) (by kernel_rfl) (c := nd30 []) (by kernel_rfl) fun wf lt => ?_
  rw [← en30_eq]
  replace h := h wf lt
  generalize hs : startL _ = tm
  replace h : F30 (tm 0) (tm 1) g K := by rw [← hs]; exact h
  refine seq_i (a := nd30 [0]) (b := nd30 [1]) (k' := kj30_0  K) (by kernel_rfl) (fun st h => J30_0_ok  K st.tm st.g h) ?_
  try unfold F30 at h
  unfold kj30_0
  generalize @J30_0 = Q30_0 at h ⊢
  refine code2_sound ok_mono _ _ _ ?_
  refine kmp ?_ h
  generalize Ok Try.prog = C
  try unfold en30
  as_aux_lemma => kernel_rfl

/-! (*parapet/frame.Frames).List (21 slots) -/
noncomputable def en31 (K : LV → LHeap → Prop) : LEx → LSt → Prop := fun e st => match e with
  | .exit _ => False
  | _ => K (st.tm 4) st.g
theorem en31_eq (K : LV → LHeap → Prop) : en31 K = endL Try.prog Try.f31 K := by
  funext e st
  cases e <;> kernel_rfl
noncomputable def nd31 (p : List Nat) : Code := subC p (bodyC Try.prog 31)
noncomputable def F31 (x0 x1 : LV) (g : LHeap) (K : LV → LHeap → Prop) : Prop :=
  Ok Try.prog 54 [x0] g fun t6 g =>
  vK (unL .not t6) fun t7 =>
  gd t7 false g (fun K => K x0 g) fun t9 g =>
  gd t7 false g (fun K => K x1 g) fun t10 g =>
  gd t7 false g (fun K => Ok Try.prog 55 [t9, t10] g K) fun t11 g =>
  gd t7 false g (fun K => vK (unL .not t11) fun v => K v g) fun t12 g =>
  vK (pickL t7 (.bool true) t12) fun t13 =>
  ifB t13 (
  K .nils g) (
  vK (nilCheckL x0) fun t16 =>
  vK (fieldAddrL 4 t16) fun t17 =>
  vK (ixAddrL (some 8) 1 t17 x1) fun t18 =>
  vK (loadV none t18 g) fun t19 =>
  Ok Try.prog 64 [t19] g fun t20 g =>
  K t20 g)
theorem ok31 {x0 x1 : LV} {g : LHeap} {K : LV → LHeap → Prop} (h : g.Wf → (∀ v ∈ ([x0, x1] : List LV), ∀ b ∈ v.objs, b < g.next) → F31 x0 x1 g K) : Ok Try.prog 31 [x0, x1] g K := by
  refine ok_fw Try.mixed Try.func31 (by kernel_rfl) (by kernel_rfl) (c := nd31 []) (by kernel_rfl) fun wf lt => ?_
  rw [← en31_eq]
  replace h := h wf lt
  generalize hs : startL _ = tm
  replace h : F31 (tm 0) (tm 1) g K := by rw [← hs]; exact h
  try unfold F31 at h
  refine code2_sound ok_mono _ _ _ ?_
  refine kmp ?_ h
  generalize Ok Try.prog = C
  try unfold en31
  as_aux_lemma => kernel_rfl

/-! (*parapet/frame.Frames).Common (11 slots) -/
noncomputable def en32 (K : LV → LHeap → Prop) : LEx → LSt → Prop := fun e st => match e with
  | .exit _ => False
  | _ => K (st.tm 2) st.g
theorem en32_eq (K : LV → LHeap → Prop) : en32 K = endL Try.prog Try.f32 K := by
  funext e st
  cases e <;> kernel_rfl
noncomputable def nd32 (p : List Nat) : Code := subC p (bodyC Try.prog 32)
noncomputable def F32 (x0 : LV) (g : LHeap) (K : LV → LHeap → Prop) : Prop :=
  Ok Try.prog 54 [x0] g fun t4 g =>
  vK (unL .not t4) fun t5 =>
  ifB t5 (
  K .nils g) (
  vK (nilCheckL x0) fun t7 =>
  vK (fieldAddrL 12 t7) fun t8 =>
  vK (loadV none t8 g) fun t9 =>
  Ok Try.prog 64 [t9] g fun t10 g =>
  K t10 g)
theorem ok32 {x0 : LV} {g : LHeap} {K : LV → LHeap → Prop} (h : g.Wf → (∀ v ∈ ([x0] : List LV), ∀ b ∈ v.objs, b < g.next) → F32 x0 g K) : Ok Try.prog 32 [x0] g K := by
  refine ok_fw Try.mixed Try.func32 (by kernel_rfl) (by kernel_rfl) (c := nd32 []) (by kernel_rfl) fun wf lt => ?_
  rw [← en32_eq]
  replace h := h wf lt
  generalize hs : startL _ = tm
  replace h : F32 (tm 0) g K := by rw [← hs]; exact h
  try unfold F32 at h
  refine code2_sound ok_mono _ _ _ ?_
  refine kmp ?_ h
  generalize Ok Try.prog = C
  try unfold en32
  as_aux_lemma => kernel_rfl

/-! (*parapet/frame.Frames).All (4 slots) -/
noncomputable def en33 (K : LV → LHeap → Prop) : LEx → LSt → Prop := fun e st => match e with
  | .exit _ => False
  | _ => K (st.tm 2) st.g
theorem en33_eq (K : LV → LHeap → Prop) : en33 K = endL Try.prog Try.f33 K := by
  funext e st
  cases e <;> kernel_rfl
noncomputable def nd33 (p : List Nat) : Code := subC p (bodyC Try.prog 33)
noncomputable def F33 (x0 : LV) (g : LHeap) (K : LV → LHeap → Prop) : Prop :=
  oK (newL x0 g) fun t1 g =>
  K (.func (.func 65) [] [t1]) g
theorem ok33 {x0 : LV} {g : LHeap} {K : LV → LHeap → Prop} (h : g.Wf → (∀ v ∈ ([x0] : List LV), ∀ b ∈ v.objs, b < g.next) → F33 x0 g K) : Ok Try.prog 33 [x0] g K := by
  refine ok_fw Try.mixed Try.func33 (by kernel_rfl) (by kernel_rfl) (c := nd33 []) (by kernel_rfl) fun wf lt => ?_
  rw [← en33_eq]
  replace h := h wf lt
  generalize hs : startL _ = tm
  replace h : F33 (tm 0) g K := by rw [← hs]; exact h
  try unfold F33 at h
  refine code2_sound ok_mono _ _ _ ?_
  refine kmp ?_ h
  generalize Ok Try.prog = C
  try unfold en33
  as_aux_lemma => kernel_rfl

end Go.Proofs.Ytoajcekgoalhjaa
