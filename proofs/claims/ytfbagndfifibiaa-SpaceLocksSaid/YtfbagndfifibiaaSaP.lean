/-
  Functions of the program, as texts of named values.
-/
import Derived.Test.YtfbagndfifibiaaSa0
set_option linter.all false
namespace Go.Proofs.Ytfbagndfifibiaa
open Go.ChangeShapes Go.WideShapes Go.ChangeAt Go.RowKit Go.Lm
set_option maxRecDepth 1000000
set_option linter.unusedVariables false
/-! parapet/parapetlaw13.SpaceLocks (87 slots) -/
noncomputable def en3 (K : LV → LHeap → Prop) : LEx → LSt → Prop := fun e st => match e with
  | .exit _ => False
  | _ => K (st.tm 2) st.g
theorem en3_eq (K : LV → LHeap → Prop) : en3 K = endL Try.prog Try.f3 K := by
  funext e st
  cases e <;> kernel_rfl
noncomputable def nd3 (p : List Nat) : Code := subC p (bodyC Try.prog 3)
noncomputable def J3_6 (x4 x6 : LV) (g : LHeap)  (K : LV → LHeap → Prop) : Prop :=
  Ok Try.prog 9 [x4] g fun t84 g =>
  vK (binL Try.prog .eql 3 false t84 x6) fun t86 =>
  K t86 g
abbrev kj3_6  (K : LV → LHeap → Prop) : LSt → Prop := fun st => J3_6 (st.tm 4) (st.tm 6) st.g  K
theorem J3_6_ok  (K : LV → LHeap → Prop) (tm : Nat → LV) (g : LHeap) (h : J3_6 (tm 4) (tm 6) g  K) : codeL Try.prog (Ok Try.prog) (nd3 [1, 1, 1, 1, 1, 1, 1]) ⟨tm, g⟩ (en3 K) := by
  try unfold J3_6 at h
  refine code2_sound ok_mono _ _ _ ?_
  refine kmp ?_ h
  generalize Ok Try.prog = C
  try unfold en3
  as_aux_lemma => kernel_rfl

noncomputable def J3_10 (x0 x4 x6 x7 : LV) (g : LHeap) (N8 : LV × LV → LHeap → Prop) (K : LV → LHeap → Prop) : Prop :=
  vK (binL Try.prog .add 3 true x7 (.int .i64 (1))) fun t36 =>
  N8 (x6, t36) g
abbrev kj3_10 (R8 : LV × LV → LV × LV → LHeap → Prop) (K : LV → LHeap → Prop) : LSt → Prop := fun st => J3_10 (st.tm 0) (st.tm 4) (st.tm 6) (st.tm 7) st.g (fun s g => R8 ((st.tm 0), (st.tm 4)) s g) K
theorem J3_10_ok (R8 : LV × LV → LV × LV → LHeap → Prop) (K : LV → LHeap → Prop) (tm : Nat → LV) (g : LHeap) (h : J3_10 (tm 0) (tm 4) (tm 6) (tm 7) g (fun s g => R8 ((tm 0), (tm 4)) s g) K) : codeL Try.prog (Ok Try.prog) (nd3 [1, 1, 1, 1, 1, 1, 0, 1, 0, 0, 1, 1]) ⟨tm, g⟩ (roundK (fun tm : Nat → LV => (tm 0, tm 4)) (fun tm : Nat → LV => (tm 6, tm 7)) R8 (exitL 0 (thenL (kj3_6  K) (en3 K)))) := by
  try unfold J3_10 at h
  unfold kj3_6
  generalize @J3_6 = Q3_6 at h ⊢
  refine code2_sound ok_mono _ _ _ ?_
  refine kmp ?_ h
  generalize Ok Try.prog = C
  try unfold en3
  as_aux_lemma => kernel_rfl

noncomputable def J3_15 (x0 x4 x6 x7 : LV) (g : LHeap) (N8 : LV × LV → LHeap → Prop) (K : LV → LHeap → Prop) : Prop :=
  Ok Try.prog 9 [x4] g fun t80 g =>
  vK (binL Try.prog .neq 3 false t80 x6) fun t82 =>
  ifB t82 (
  K (.bool false) g) (
  J3_10 x0 x4 x6 x7 g N8 K)
abbrev kj3_15 (R8 : LV × LV → LV × LV → LHeap → Prop) (K : LV → LHeap → Prop) : LSt → Prop := fun st => J3_15 (st.tm 0) (st.tm 4) (st.tm 6) (st.tm 7) st.g (fun s g => R8 ((st.tm 0), (st.tm 4)) s g) K
theorem J3_15_ok (R8 : LV × LV → LV × LV → LHeap → Prop) (K : LV → LHeap → Prop) (tm : Nat → LV) (g : LHeap) (h : J3_15 (tm 0) (tm 4) (tm 6) (tm 7) g (fun s g => R8 ((tm 0), (tm 4)) s g) K) : codeL Try.prog (Ok Try.prog) (nd3 [1, 1, 1, 1, 1, 1, 0, 1, 0, 0, 1, 0, 0, 1, 1, 1, 1, 1]) ⟨tm, g⟩ (exitL 1 (thenL (kj3_10 R8 K) (roundK (fun tm : Nat → LV => (tm 0, tm 4)) (fun tm : Nat → LV => (tm 6, tm 7)) R8 (exitL 0 (thenL (kj3_6  K) (en3 K)))))) := by
  try unfold J3_15 at h
  unfold kj3_10
  generalize @J3_10 = Q3_10 at h ⊢
  unfold kj3_6
  generalize @J3_6 = Q3_6 at h ⊢
  refine code2_sound ok_mono _ _ _ ?_
  refine kmp ?_ h
  generalize Ok Try.prog = C
  try unfold en3
  as_aux_lemma => kernel_rfl

noncomputable def J3_14 (x0 x4 x6 x7 x8 : LV) (g : LHeap) (N8 : LV × LV → LHeap → Prop) (K : LV → LHeap → Prop) : Prop :=
  vK (binL Try.prog .eql 3 true x6 (.int .i64 (0))) fun t77 =>
  ifB t77 (
  J3_15 x0 x4 x8 x7 g N8 K) (
  J3_15 x0 x4 x6 x7 g N8 K)
abbrev kj3_14 (R8 : LV × LV → LV × LV → LHeap → Prop) (K : LV → LHeap → Prop) : LSt → Prop := fun st => J3_14 (st.tm 0) (st.tm 4) (st.tm 6) (st.tm 7) (st.tm 8) st.g (fun s g => R8 ((st.tm 0), (st.tm 4)) s g) K
theorem J3_14_ok (R8 : LV × LV → LV × LV → LHeap → Prop) (K : LV → LHeap → Prop) (tm : Nat → LV) (g : LHeap) (h : J3_14 (tm 0) (tm 4) (tm 6) (tm 7) (tm 8) g (fun s g => R8 ((tm 0), (tm 4)) s g) K) : codeL Try.prog (Ok Try.prog) (nd3 [1, 1, 1, 1, 1, 1, 0, 1, 0, 0, 1, 0, 0, 1, 1, 1, 1]) ⟨tm, g⟩ (exitL 1 (thenL (kj3_10 R8 K) (roundK (fun tm : Nat → LV => (tm 0, tm 4)) (fun tm : Nat → LV => (tm 6, tm 7)) R8 (exitL 0 (thenL (kj3_6  K) (en3 K)))))) := by
  refine seq_i (a := nd3 [1, 1, 1, 1, 1, 1, 0, 1, 0, 0, 1, 0, 0, 1, 1, 1, 1, 0]) (b := nd3 [1, 1, 1, 1, 1, 1, 0, 1, 0, 0, 1, 0, 0, 1, 1, 1, 1, 1]) (k' := kj3_15 R8 K) (by kernel_rfl) (fun st h => J3_15_ok R8 K st.tm st.g h) ?_
  try unfold J3_14 at h
  unfold kj3_15
  generalize @J3_15 = Q3_15 at h ⊢
  unfold kj3_10
  generalize @J3_10 = Q3_10 at h ⊢
  unfold kj3_6
  generalize @J3_6 = Q3_6 at h ⊢
  refine code2_sound ok_mono _ _ _ ?_
  refine kmp ?_ h
  generalize Ok Try.prog = C
  try unfold en3
  as_aux_lemma => kernel_rfl

noncomputable def J3_13 (x0 x4 x6 x7 x8 : LV) (g : LHeap) (N8 : LV × LV → LHeap → Prop) (K : LV → LHeap → Prop) : Prop :=
  Ok Try.prog 8 [x4, x8] g fun t67 g =>
  vK (binL Try.prog .eql 3 true x6 (.int .i64 (0))) fun t69 =>
  gd t69 false g (fun K => K x6 g) fun t71 g =>
  gd t69 false g (fun K => K x8 g) fun t72 g =>
  gd t69 false g (fun K => vK (binL Try.prog .eql 3 false t71 t72) fun v => K v g) fun t73 g =>
  vK (pickL t69 (.bool true) t73) fun t74 =>
  vK (binL Try.prog .neq 4 false t67 t74) fun t75 =>
  ifB t75 (
  K (.bool false) g) (
  J3_14 x0 x4 x6 x7 x8 g N8 K)
abbrev kj3_13 (R8 : LV × LV → LV × LV → LHeap → Prop) (K : LV → LHeap → Prop) : LSt → Prop := fun st => J3_13 (st.tm 0) (st.tm 4) (st.tm 6) (st.tm 7) (st.tm 8) st.g (fun s g => R8 ((st.tm 0), (st.tm 4)) s g) K
theorem J3_13_ok (R8 : LV × LV → LV × LV → LHeap → Prop) (K : LV → LHeap → Prop) (tm : Nat → LV) (g : LHeap) (h : J3_13 (tm 0) (tm 4) (tm 6) (tm 7) (tm 8) g (fun s g => R8 ((tm 0), (tm 4)) s g) K) : codeL Try.prog (Ok Try.prog) (nd3 [1, 1, 1, 1, 1, 1, 0, 1, 0, 0, 1, 0, 0, 1, 1, 1]) ⟨tm, g⟩ (exitL 1 (thenL (kj3_10 R8 K) (roundK (fun tm : Nat → LV => (tm 0, tm 4)) (fun tm : Nat → LV => (tm 6, tm 7)) R8 (exitL 0 (thenL (kj3_6  K) (en3 K)))))) := by
  refine seq_i (a := nd3 [1, 1, 1, 1, 1, 1, 0, 1, 0, 0, 1, 0, 0, 1, 1, 1, 0]) (b := nd3 [1, 1, 1, 1, 1, 1, 0, 1, 0, 0, 1, 0, 0, 1, 1, 1, 1]) (k' := kj3_14 R8 K) (by kernel_rfl) (fun st h => J3_14_ok R8 K st.tm st.g h) ?_
  try unfold J3_13 at h
  unfold kj3_14
  generalize @J3_14 = Q3_14 at h ⊢
  unfold kj3_10
  generalize @J3_10 = Q3_10 at h ⊢
  unfold kj3_6
  generalize @J3_6 = Q3_6 at h ⊢
  refine code2_sound ok_mono _ _ _ ?_
  refine kmp ?_ h
  generalize Ok Try.prog = C
  try unfold en3
  as_aux_lemma => kernel_rfl

noncomputable def J3_12 (x0 x4 x6 x7 x8 : LV) (g : LHeap) (N8 : LV × LV → LHeap → Prop) (K : LV → LHeap → Prop) : Prop :=
  vK (binL Try.prog .rem 3 true x7 (.int .i64 (3))) fun t44 =>
  vK (binL Try.prog .eql 3 true t44 (.int .i64 (2))) fun t45 =>
  ifB t45 (
  Ok Try.prog 7 [x4, x8] g fun t48 g =>
  vK (binL Try.prog .eql 27 true t48 (.int .i64 (0))) fun t50 =>
  vK (binL Try.prog .eql 3 false x6 x8) fun t53 =>
  vK (binL Try.prog .neq 4 false t50 t53) fun t54 =>
  gd t54 false g (fun K => K t48 g) fun t56 g =>
  gd t54 false g (fun K => vK (binL Try.prog .neq 27 true t56 (.int .i64 (0))) fun v => K v g) fun t57 g =>
  gd t54 false g (fun K => K t57 g) fun t58 g =>
  gd t58 true g (fun K => K t48 g) fun t59 g =>
  gd t58 true g (fun K => vK (binL Try.prog .neq 27 true t59 (.int .i64 (131))) fun v => K v g) fun t60 g =>
  gd t54 false g (fun K => vK (pickL t58 t60 (.bool false)) fun v => K v g) fun t61 g =>
  vK (pickL t54 (.bool true) t61) fun t62 =>
  ifB t62 (
  K (.bool false) g) (
  vK (binL Try.prog .eql 27 true t48 (.int .i64 (0))) fun t64 =>
  ifB t64 (
  J3_10 x0 x4 (.int .i64 (0)) x7 g N8 K) (
  J3_10 x0 x4 x6 x7 g N8 K))) (
  J3_13 x0 x4 x6 x7 x8 g N8 K)
abbrev kj3_12 (R8 : LV × LV → LV × LV → LHeap → Prop) (K : LV → LHeap → Prop) : LSt → Prop := fun st => J3_12 (st.tm 0) (st.tm 4) (st.tm 6) (st.tm 7) (st.tm 8) st.g (fun s g => R8 ((st.tm 0), (st.tm 4)) s g) K
theorem J3_12_ok (R8 : LV × LV → LV × LV → LHeap → Prop) (K : LV → LHeap → Prop) (tm : Nat → LV) (g : LHeap) (h : J3_12 (tm 0) (tm 4) (tm 6) (tm 7) (tm 8) g (fun s g => R8 ((tm 0), (tm 4)) s g) K) : codeL Try.prog (Ok Try.prog) (nd3 [1, 1, 1, 1, 1, 1, 0, 1, 0, 0, 1, 0, 0, 1, 1]) ⟨tm, g⟩ (exitL 1 (thenL (kj3_10 R8 K) (roundK (fun tm : Nat → LV => (tm 0, tm 4)) (fun tm : Nat → LV => (tm 6, tm 7)) R8 (exitL 0 (thenL (kj3_6  K) (en3 K)))))) := by
  refine seq_i (a := nd3 [1, 1, 1, 1, 1, 1, 0, 1, 0, 0, 1, 0, 0, 1, 1, 0]) (b := nd3 [1, 1, 1, 1, 1, 1, 0, 1, 0, 0, 1, 0, 0, 1, 1, 1]) (k' := kj3_13 R8 K) (by kernel_rfl) (fun st h => J3_13_ok R8 K st.tm st.g h) ?_
  try unfold J3_12 at h
  unfold kj3_13
  generalize @J3_13 = Q3_13 at h ⊢
  unfold kj3_10
  generalize @J3_10 = Q3_10 at h ⊢
  unfold kj3_6
  generalize @J3_6 = Q3_6 at h ⊢
  refine code2_sound ok_mono _ _ _ ?_
  refine kmp ?_ h
  generalize Ok Try.prog = C
  try unfold en3
  as_aux_lemma => kernel_rfl

noncomputable def J3_11 (x0 x4 x6 x7 x8 : LV) (g : LHeap) (N8 : LV × LV → LHeap → Prop) (K : LV → LHeap → Prop) : Prop :=
  vK (binL Try.prog .lss 3 true x8 (.int .i64 (1))) fun t42 =>
  ifB t42 (
  J3_10 x0 x4 x6 x7 g N8 K) (
  J3_12 x0 x4 x6 x7 x8 g N8 K)
abbrev kj3_11 (R8 : LV × LV → LV × LV → LHeap → Prop) (K : LV → LHeap → Prop) : LSt → Prop := fun st => J3_11 (st.tm 0) (st.tm 4) (st.tm 6) (st.tm 7) (st.tm 8) st.g (fun s g => R8 ((st.tm 0), (st.tm 4)) s g) K
theorem J3_11_ok (R8 : LV × LV → LV × LV → LHeap → Prop) (K : LV → LHeap → Prop) (tm : Nat → LV) (g : LHeap) (h : J3_11 (tm 0) (tm 4) (tm 6) (tm 7) (tm 8) g (fun s g => R8 ((tm 0), (tm 4)) s g) K) : codeL Try.prog (Ok Try.prog) (nd3 [1, 1, 1, 1, 1, 1, 0, 1, 0, 0, 1, 0, 0, 1]) ⟨tm, g⟩ (exitL 1 (thenL (kj3_10 R8 K) (roundK (fun tm : Nat → LV => (tm 0, tm 4)) (fun tm : Nat → LV => (tm 6, tm 7)) R8 (exitL 0 (thenL (kj3_6  K) (en3 K)))))) := by
  refine seq_i (a := nd3 [1, 1, 1, 1, 1, 1, 0, 1, 0, 0, 1, 0, 0, 1, 0]) (b := nd3 [1, 1, 1, 1, 1, 1, 0, 1, 0, 0, 1, 0, 0, 1, 1]) (k' := kj3_12 R8 K) (by kernel_rfl) (fun st h => J3_12_ok R8 K st.tm st.g h) ?_
  try unfold J3_11 at h
  unfold kj3_12
  generalize @J3_12 = Q3_12 at h ⊢
  unfold kj3_10
  generalize @J3_10 = Q3_10 at h ⊢
  unfold kj3_6
  generalize @J3_6 = Q3_6 at h ⊢
  refine code2_sound ok_mono _ _ _ ?_
  refine kmp ?_ h
  generalize Ok Try.prog = C
  try unfold en3
  as_aux_lemma => kernel_rfl

noncomputable def J3_9 (x0 x4 x6 x7 : LV) (g : LHeap) (N8 : LV × LV → LHeap → Prop) (K : LV → LHeap → Prop) : Prop :=
  vK (ixAddrL none 1 x0 x7) fun t39 =>
  vK (loadV none t39 g) fun t40 =>
  J3_11 x0 x4 x6 x7 t40 g N8 K
abbrev kj3_9 (R8 : LV × LV → LV × LV → LHeap → Prop) (K : LV → LHeap → Prop) : LSt → Prop := fun st => J3_9 (st.tm 0) (st.tm 4) (st.tm 6) (st.tm 7) st.g (fun s g => R8 ((st.tm 0), (st.tm 4)) s g) K
theorem J3_9_ok (R8 : LV × LV → LV × LV → LHeap → Prop) (K : LV → LHeap → Prop) (tm : Nat → LV) (g : LHeap) (h : J3_9 (tm 0) (tm 4) (tm 6) (tm 7) g (fun s g => R8 ((tm 0), (tm 4)) s g) K) : codeL Try.prog (Ok Try.prog) (nd3 [1, 1, 1, 1, 1, 1, 0, 1, 0, 0, 1]) ⟨tm, g⟩ (roundK (fun tm : Nat → LV => (tm 0, tm 4)) (fun tm : Nat → LV => (tm 6, tm 7)) R8 (exitL 0 (thenL (kj3_6  K) (en3 K)))) := by
  refine seq_i (a := nd3 [1, 1, 1, 1, 1, 1, 0, 1, 0, 0, 1, 0]) (b := nd3 [1, 1, 1, 1, 1, 1, 0, 1, 0, 0, 1, 1]) (k' := kj3_10 R8 K) (by kernel_rfl) (fun st h => J3_10_ok R8 K st.tm st.g h) ?_
  refine block_i (b := nd3 [1, 1, 1, 1, 1, 1, 0, 1, 0, 0, 1, 0, 0]) (i := 1) (by kernel_rfl) ?_
  refine seq_i (a := nd3 [1, 1, 1, 1, 1, 1, 0, 1, 0, 0, 1, 0, 0, 0]) (b := nd3 [1, 1, 1, 1, 1, 1, 0, 1, 0, 0, 1, 0, 0, 1]) (k' := kj3_11 R8 K) (by kernel_rfl) (fun st h => J3_11_ok R8 K st.tm st.g h) ?_
  try unfold J3_9 at h
  unfold kj3_11
  generalize @J3_11 = Q3_11 at h ⊢
  unfold kj3_10
  generalize @J3_10 = Q3_10 at h ⊢
  unfold kj3_6
  generalize @J3_6 = Q3_6 at h ⊢
  refine code2_sound ok_mono _ _ _ ?_
  refine kmp ?_ h
  generalize Ok Try.prog = C
  try unfold en3
  as_aux_lemma => kernel_rfl

noncomputable def L3_8 (x0 x4 : LV) (x6 x7 : LV) (g : LHeap) (N8 : LV × LV → LHeap → Prop) (K : LV → LHeap → Prop) : Prop :=
  oK (builtinL Try.prog .len [22] [x0] g) fun t33 g =>
  vK (binL Try.prog .lss 3 false x7 t33) fun t34 =>
  ifB t34 (
  J3_9 x0 x4 x6 x7 g N8 K) (
  J3_6 x4 x6 g  K)
theorem L3_8_ok (R8 : LV × LV → LV × LV → LHeap → Prop) (K : LV → LHeap → Prop) (tm : Nat → LV) (g : LHeap) (h : L3_8 (tm 0) (tm 4) (tm 6) (tm 7) g (fun s g => R8 ((tm 0), (tm 4)) s g) K) : codeL Try.prog (Ok Try.prog) (nd3 [1, 1, 1, 1, 1, 1, 0, 1, 0, 0]) ⟨tm, g⟩ (roundK (fun tm : Nat → LV => (tm 0, tm 4)) (fun tm : Nat → LV => (tm 6, tm 7)) R8 (exitL 0 (thenL (kj3_6  K) (en3 K)))) := by
  refine seq_i (a := nd3 [1, 1, 1, 1, 1, 1, 0, 1, 0, 0, 0]) (b := nd3 [1, 1, 1, 1, 1, 1, 0, 1, 0, 0, 1]) (k' := kj3_9 R8 K) (by kernel_rfl) (fun st h => J3_9_ok R8 K st.tm st.g h) ?_
  try unfold L3_8 at h
  unfold kj3_9
  generalize @J3_9 = Q3_9 at h ⊢
  unfold kj3_6
  generalize @J3_6 = Q3_6 at h ⊢
  refine code2_sound ok_mono _ _ _ ?_
  refine kmp ?_ h
  generalize Ok Try.prog = C
  try unfold en3
  as_aux_lemma => kernel_rfl

noncomputable def J3_7 (x0 x4 x6 x7 : LV) (g : LHeap)  (K : LV → LHeap → Prop) : Prop :=
  loopP (fun s g N => L3_8 x0 x4 s.1 s.2 g N  K) (x6, x7) g
abbrev kj3_7  (K : LV → LHeap → Prop) : LSt → Prop := fun st => J3_7 (st.tm 0) (st.tm 4) (st.tm 6) (st.tm 7) st.g  K
theorem J3_7_ok  (K : LV → LHeap → Prop) (tm : Nat → LV) (g : LHeap) (h : J3_7 (tm 0) (tm 4) (tm 6) (tm 7) g  K) : codeL Try.prog (Ok Try.prog) (nd3 [1, 1, 1, 1, 1, 1, 0, 1]) ⟨tm, g⟩ (thenL (kj3_6  K) (en3 K)) := by
  refine block_i (b := nd3 [1, 1, 1, 1, 1, 1, 0, 1, 0]) (i := 0) (by kernel_rfl) ?_
  exact loop_glue (b := nd3 [1, 1, 1, 1, 1, 1, 0, 1, 0, 0]) (by kernel_rfl) (fun tm : Nat → LV => (tm 0, tm 4)) (fun tm : Nat → LV => (tm 6, tm 7)) (fun a s g N => L3_8 a.1 a.2 s.1 s.2 g N  K) (fun tm g R h => L3_8_ok R  K tm g h) tm g h

noncomputable def J3_5 (x0 x4 x6 : LV) (g : LHeap)  (K : LV → LHeap → Prop) : Prop :=
  J3_7 x0 x4 x6 (.int .i64 (0)) g  K
abbrev kj3_5  (K : LV → LHeap → Prop) : LSt → Prop := fun st => J3_5 (st.tm 0) (st.tm 4) (st.tm 6) st.g  K
theorem J3_5_ok  (K : LV → LHeap → Prop) (tm : Nat → LV) (g : LHeap) (h : J3_5 (tm 0) (tm 4) (tm 6) g  K) : codeL Try.prog (Ok Try.prog) (nd3 [1, 1, 1, 1, 1, 1]) ⟨tm, g⟩ (en3 K) := by
  refine seq_i (a := nd3 [1, 1, 1, 1, 1, 1, 0]) (b := nd3 [1, 1, 1, 1, 1, 1, 1]) (k' := kj3_6  K) (by kernel_rfl) (fun st h => J3_6_ok  K st.tm st.g h) ?_
  refine seq_i (a := nd3 [1, 1, 1, 1, 1, 1, 0, 0]) (b := nd3 [1, 1, 1, 1, 1, 1, 0, 1]) (k' := kj3_7  K) (by kernel_rfl) (fun st h => J3_7_ok  K st.tm st.g h) ?_
  try unfold J3_5 at h
  unfold kj3_7
  generalize @J3_7 = Q3_7 at h ⊢
  unfold kj3_6
  generalize @J3_6 = Q3_6 at h ⊢
  refine code2_sound ok_mono _ _ _ ?_
  refine kmp ?_ h
  generalize Ok Try.prog = C
  try unfold en3
  as_aux_lemma => kernel_rfl

noncomputable def J3_4 (x0 x4 : LV) (g : LHeap)  (K : LV → LHeap → Prop) : Prop :=
  J3_5 x0 x4 (.int .i64 (0)) g  K
abbrev kj3_4  (K : LV → LHeap → Prop) : LSt → Prop := fun st => J3_4 (st.tm 0) (st.tm 4) st.g  K
theorem J3_4_ok  (K : LV → LHeap → Prop) (tm : Nat → LV) (g : LHeap) (h : J3_4 (tm 0) (tm 4) g  K) : codeL Try.prog (Ok Try.prog) (nd3 [1, 1, 1, 1, 1]) ⟨tm, g⟩ (en3 K) := by
  refine seq_i (a := nd3 [1, 1, 1, 1, 1, 0]) (b := nd3 [1, 1, 1, 1, 1, 1]) (k' := kj3_5  K) (by kernel_rfl) (fun st h => J3_5_ok  K st.tm st.g h) ?_
  try unfold J3_4 at h
  unfold kj3_5
  generalize @J3_5 = Q3_5 at h ⊢
  refine code2_sound ok_mono _ _ _ ?_
  refine kmp ?_ h
  generalize Ok Try.prog = C
  try unfold en3
  as_aux_lemma => kernel_rfl

noncomputable def J3_3 (x0 x4 x5 : LV) (g : LHeap)  (K : LV → LHeap → Prop) : Prop :=
  vK (binL Try.prog .neq 27 true x5 (.int .i64 (0))) fun t26 =>
  gd t26 false g (fun K => K x4 g) fun t28 g =>
  gd t26 false g (fun K => vK (binL Try.prog .eql 26 true t28 .nilp) fun v => K v g) fun t29 g =>
  vK (pickL t26 (.bool true) t29) fun t30 =>
  ifB t30 (
  K (.bool false) g) (
  J3_4 x0 x4 g  K)
abbrev kj3_3  (K : LV → LHeap → Prop) : LSt → Prop := fun st => J3_3 (st.tm 0) (st.tm 4) (st.tm 5) st.g  K
theorem J3_3_ok  (K : LV → LHeap → Prop) (tm : Nat → LV) (g : LHeap) (h : J3_3 (tm 0) (tm 4) (tm 5) g  K) : codeL Try.prog (Ok Try.prog) (nd3 [1, 1, 1, 1]) ⟨tm, g⟩ (en3 K) := by
  refine seq_i (a := nd3 [1, 1, 1, 1, 0]) (b := nd3 [1, 1, 1, 1, 1]) (k' := kj3_4  K) (by kernel_rfl) (fun st h => J3_4_ok  K st.tm st.g h) ?_
  try unfold J3_3 at h
  unfold kj3_4
  generalize @J3_4 = Q3_4 at h ⊢
  refine code2_sound ok_mono _ _ _ ?_
  refine kmp ?_ h
  generalize Ok Try.prog = C
  try unfold en3
  as_aux_lemma => kernel_rfl

noncomputable def J3_2 (x0 x3 : LV) (g : LHeap)  (K : LV → LHeap → Prop) : Prop :=
  vK (nilCheckP Try.prog x3) fun t19 =>
  vK (fieldAddrL 3 t19) fun t20 =>
  vK (loadV none t20 g) fun t21 =>
  Ok Try.prog 6 [t21, (.int .i64 (0))] g fun t22 g =>
  vK (extractL t22 0) fun t23 =>
  vK (extractL t22 1) fun t24 =>
  J3_3 x0 t23 t24 g  K
abbrev kj3_2  (K : LV → LHeap → Prop) : LSt → Prop := fun st => J3_2 (st.tm 0) (st.tm 3) st.g  K
theorem J3_2_ok  (K : LV → LHeap → Prop) (tm : Nat → LV) (g : LHeap) (h : J3_2 (tm 0) (tm 3) g  K) : codeL Try.prog (Ok Try.prog) (nd3 [1, 1, 1]) ⟨tm, g⟩ (en3 K) := by
  refine seq_i (a := nd3 [1, 1, 1, 0]) (b := nd3 [1, 1, 1, 1]) (k' := kj3_3  K) (by kernel_rfl) (fun st h => J3_3_ok  K st.tm st.g h) ?_
  try unfold J3_2 at h
  unfold kj3_3
  generalize @J3_3 = Q3_3 at h ⊢
  refine code2_sound ok_mono _ _ _ ?_
  refine kmp ?_ h
  generalize Ok Try.prog = C
  try unfold en3
  as_aux_lemma => kernel_rfl

noncomputable def J3_1 (x0 x3 : LV) (g : LHeap)  (K : LV → LHeap → Prop) : Prop :=
  vK (binL Try.prog .eql 23 true x3 .nilp) fun t12 =>
  gd t12 false g (fun K => Ok Try.prog 5 [] g K) fun t14 g =>
  gd t12 false g (fun K => vK (unL .not t14) fun v => K v g) fun t15 g =>
  vK (pickL t12 (.bool true) t15) fun t16 =>
  ifB t16 (
  K (.bool false) g) (
  J3_2 x0 x3 g  K)
abbrev kj3_1  (K : LV → LHeap → Prop) : LSt → Prop := fun st => J3_1 (st.tm 0) (st.tm 3) st.g  K
theorem J3_1_ok  (K : LV → LHeap → Prop) (tm : Nat → LV) (g : LHeap) (h : J3_1 (tm 0) (tm 3) g  K) : codeL Try.prog (Ok Try.prog) (nd3 [1, 1]) ⟨tm, g⟩ (en3 K) := by
  refine seq_i (a := nd3 [1, 1, 0]) (b := nd3 [1, 1, 1]) (k' := kj3_2  K) (by kernel_rfl) (fun st h => J3_2_ok  K st.tm st.g h) ?_
  try unfold J3_1 at h
  unfold kj3_2
  generalize @J3_2 = Q3_2 at h ⊢
  refine code2_sound ok_mono _ _ _ ?_
  refine kmp ?_ h
  generalize Ok Try.prog = C
  try unfold en3
  as_aux_lemma => kernel_rfl

noncomputable def J3_0 (x0 : LV) (g : LHeap)  (K : LV → LHeap → Prop) : Prop :=
  Ok Try.prog 4 [(.int .i64 (8))] g fun t10 g =>
  J3_1 x0 t10 g  K
abbrev kj3_0  (K : LV → LHeap → Prop) : LSt → Prop := fun st => J3_0 (st.tm 0) st.g  K
theorem J3_0_ok  (K : LV → LHeap → Prop) (tm : Nat → LV) (g : LHeap) (h : J3_0 (tm 0) g  K) : codeL Try.prog (Ok Try.prog) (nd3 [1]) ⟨tm, g⟩ (en3 K) := by
  refine seq_i (a := nd3 [1, 0]) (b := nd3 [1, 1]) (k' := kj3_1  K) (by kernel_rfl) (fun st h => J3_1_ok  K st.tm st.g h) ?_
  try unfold J3_0 at h
  unfold kj3_1
  generalize @J3_1 = Q3_1 at h ⊢
  refine code2_sound ok_mono _ _ _ ?_
  refine kmp ?_ h
  generalize Ok Try.prog = C
  try unfold en3
  as_aux_lemma => kernel_rfl

noncomputable def F3 (x0 : LV) (g : LHeap) (K : LV → LHeap → Prop) : Prop :=
  J3_0 x0 g  K
theorem ok3 {x0 : LV} {g : LHeap} {K : LV → LHeap → Prop} (h : g.Wf → (∀ v ∈ ([x0] : List LV), ∀ b ∈ v.objs, b < g.next) → F3 x0 g K) : Ok Try.prog 3 [x0] g K := by
  refine ok_fw Try.mixed Try.func3 (by kernel_rfl) (by kernel_rfl) (c := nd3 []) (by kernel_rfl) fun wf lt => ?_
  rw [← en3_eq]
  replace h := h wf lt
  generalize hs : startL _ = tm
  replace h : F3 (tm 0) g K := by rw [← hs]; exact h
  refine seq_i (a := nd3 [0]) (b := nd3 [1]) (k' := kj3_0  K) (by kernel_rfl) (fun st h => J3_0_ok  K st.tm st.g h) ?_
  try unfold F3 at h
  unfold kj3_0
  generalize @J3_0 = Q3_0 at h ⊢
  refine code2_sound ok_mono _ _ _ ?_
  refine kmp ?_ h
  generalize Ok Try.prog = C
  try unfold en3
  as_aux_lemma => kernel_rfl

/-! parapet/parapetlaw13.build (69 slots) -/
noncomputable def en4 (K : LV → LHeap → Prop) : LEx → LSt → Prop := fun e st => match e with
  | .exit _ => False
  | _ => K (st.tm 2) st.g
theorem en4_eq (K : LV → LHeap → Prop) : en4 K = endL Try.prog Try.f4 K := by
  funext e st
  cases e <;> kernel_rfl
noncomputable def nd4 (p : List Nat) : Code := subC p (bodyC Try.prog 4)
noncomputable def F4 (x0 : LV) (g : LHeap) (K : LV → LHeap → Prop) : Prop :=
  Ok Try.prog 10 [x0] g fun t13 g =>
  vK (extractL t13 0) fun t14 =>
  vK (extractL t13 1) fun t15 =>
  Ok Try.prog 11 [t14, (.int .i64 (0)), x0, (.int .i64 (3))] g fun t19 g =>
  vK (extractL t19 0) fun t20 =>
  vK (extractL t19 1) fun t21 =>
  Ok Try.prog 12 [(.int .i64 (3)), (.int .i64 (4))] g fun t23 g =>
  vK (extractL t23 0) fun t24 =>
  vK (extractL t23 1) fun t25 =>
  Ok Try.prog 13 [t14, t20, t24] g fun t30 g =>
  vK (extractL t30 0) fun t31 =>
  vK (extractL t30 1) fun t32 =>
  vK (binL Try.prog .neq 27 true t15 (.int .i64 (0))) fun t34 =>
  gd t34 false g (fun K => K t21 g) fun t36 g =>
  gd t34 false g (fun K => vK (binL Try.prog .neq 27 true t36 (.int .i64 (0))) fun v => K v g) fun t37 g =>
  vK (pickL t34 (.bool true) t37) fun t38 =>
  gd t38 false g (fun K => K t25 g) fun t40 g =>
  gd t38 false g (fun K => vK (binL Try.prog .neq 27 true t40 (.int .i64 (0))) fun v => K v g) fun t41 g =>
  vK (pickL t38 (.bool true) t41) fun t42 =>
  gd t42 false g (fun K => K t32 g) fun t44 g =>
  gd t42 false g (fun K => vK (binL Try.prog .neq 27 true t44 (.int .i64 (0))) fun v => K v g) fun t45 g =>
  vK (pickL t42 (.bool true) t45) fun t46 =>
  gd t46 false g (fun K => K t14 g) fun t48 g =>
  gd t46 false g (fun K => vK (binL Try.prog .eql 29 true t48 .nilp) fun v => K v g) fun t49 g =>
  vK (pickL t46 (.bool true) t49) fun t50 =>
  gd t50 false g (fun K => K t20 g) fun t52 g =>
  gd t50 false g (fun K => vK (binL Try.prog .eql 30 true t52 .nilp) fun v => K v g) fun t53 g =>
  vK (pickL t50 (.bool true) t53) fun t54 =>
  gd t54 false g (fun K => K t24 g) fun t56 g =>
  gd t54 false g (fun K => vK (binL Try.prog .eql 31 true t56 .nilp) fun v => K v g) fun t57 g =>
  vK (pickL t54 (.bool true) t57) fun t58 =>
  gd t58 false g (fun K => K t31 g) fun t60 g =>
  gd t58 false g (fun K => vK (binL Try.prog .eql 32 true t60 .nilp) fun v => K v g) fun t61 g =>
  vK (pickL t58 (.bool true) t61) fun t62 =>
  ifB t62 (
  K .nilp g) (
  vK (buildL Try.prog 36 [(0, t14), (1, t20), (2, t24), (3, t31)]) fun t67 =>
  oK (newL t67 g) fun t68 g =>
  K t68 g)
theorem ok4 {x0 : LV} {g : LHeap} {K : LV → LHeap → Prop} (h : g.Wf → (∀ v ∈ ([x0] : List LV), ∀ b ∈ v.objs, b < g.next) → F4 x0 g K) : Ok Try.prog 4 [x0] g K := by
  refine ok_fw Try.mixed Try.func4 (by kernel_rfl) (by kernel_rfl) (c := nd4 []) (by kernel_rfl) fun wf lt => ?_
  rw [← en4_eq]
  replace h := h wf lt
  generalize hs : startL _ = tm
  replace h : F4 (tm 0) g K := by rw [← hs]; exact h
  try unfold F4 at h
  refine code2_sound ok_mono _ _ _ ?_
  refine kmp ?_ h
  generalize Ok Try.prog = C
  try unfold en4
  as_aux_lemma => kernel_rfl

/-! (*parapet/space.World).New (50 slots) -/
noncomputable def en6 (K : LV → LHeap → Prop) : LEx → LSt → Prop := fun e st => match e with
  | .exit _ => False
  | _ => K (.tuple [(st.tm 4), (st.tm 5)]) st.g
theorem en6_eq (K : LV → LHeap → Prop) : en6 K = endL Try.prog Try.f6 K := by
  funext e st
  cases e <;> kernel_rfl
noncomputable def nd6 (p : List Nat) : Code := subC p (bodyC Try.prog 6)
noncomputable def F6 (x0 x1 : LV) (g : LHeap) (K : LV → LHeap → Prop) : Prop :=
  vK (binL Try.prog .eql 32 true x0 .nilp) fun t10 =>
  ifB t10 (
  K (.tuple [.nilp, (.int .i64 (6))]) g) (
  vK (nilCheckP Try.prog x0) fun t13 =>
  vK (fieldAddrL 1 t13) fun t14 =>
  vK (loadV none t14 g) fun t15 =>
  Ok Try.prog 18 [t15, x1] g fun t17 g =>
  vK (extractL t17 0) fun t18 =>
  vK (extractL t17 1) fun t19 =>
  vK (binL Try.prog .neq 27 true t19 (.int .i64 (0))) fun t21 =>
  ifB t21 (
  K (.tuple [.nilp, t19]) g) (
  vK (nilCheckP Try.prog x0) fun t25 =>
  vK (fieldAddrL 0 t25) fun t26 =>
  vK (loadV none t26 g) fun t27 =>
  Ok Try.prog 19 [t27, t18] g fun t29 g =>
  vK (extractL t29 0) fun t30 =>
  vK (extractL t29 1) fun t31 =>
  vK (binL Try.prog .neq 27 true t31 (.int .i64 (0))) fun t33 =>
  ifB t33 (
  K (.tuple [.nilp, t31]) g) (
  vK (nilCheckP Try.prog x0) fun t36 =>
  vK (fieldAddrL 3 t36) fun t37 =>
  vK (loadV none t37 g) fun t38 =>
  vK (binL Try.prog .add 3 true t38 (.int .i64 (1))) fun t39 =>
  vK (nilCheckP Try.prog x0) fun t40 =>
  vK (fieldAddrL 3 t40) fun t41 =>
  gK (storeV 1 t41 t39 g) fun g =>
  vK (nilCheckP Try.prog x0) fun t44 =>
  vK (fieldAddrL 3 t44) fun t45 =>
  vK (loadV none t45 g) fun t46 =>
  vK (buildL Try.prog 66 [(0, x0), (1, t46), (2, t30)]) fun t48 =>
  oK (newL t48 g) fun t49 g =>
  K (.tuple [t49, (.int .i64 (0))]) g)))
theorem ok6 {x0 x1 : LV} {g : LHeap} {K : LV → LHeap → Prop} (h : g.Wf → (∀ v ∈ ([x0, x1] : List LV), ∀ b ∈ v.objs, b < g.next) → F6 x0 x1 g K) : Ok Try.prog 6 [x0, x1] g K := by
  refine ok_fw Try.mixed Try.func6 (by kernel_rfl) (by kernel_rfl) (c := nd6 []) (by kernel_rfl) fun wf lt => ?_
  rw [← en6_eq]
  replace h := h wf lt
  generalize hs : startL _ = tm
  replace h : F6 (tm 0) (tm 1) g K := by rw [← hs]; exact h
  try unfold F6 at h
  refine code2_sound ok_mono _ _ _ ?_
  refine kmp ?_ h
  generalize Ok Try.prog = C
  try unfold en6
  as_aux_lemma => kernel_rfl

/-! (*parapet/space.Space).Unlock (24 slots) -/
noncomputable def en7 (K : LV → LHeap → Prop) : LEx → LSt → Prop := fun e st => match e with
  | .exit _ => False
  | _ => K (st.tm 4) st.g
theorem en7_eq (K : LV → LHeap → Prop) : en7 K = endL Try.prog Try.f7 K := by
  funext e st
  cases e <;> kernel_rfl
noncomputable def nd7 (p : List Nat) : Code := subC p (bodyC Try.prog 7)
noncomputable def F7 (x0 x1 : LV) (g : LHeap) (K : LV → LHeap → Prop) : Prop :=
  Ok Try.prog 20 [x0] g fun t6 g =>
  vK (unL .not t6) fun t7 =>
  ifB t7 (
  K (.int .i64 (6)) g) (
  vK (nilCheckP Try.prog x0) fun t9 =>
  vK (fieldAddrL 259 t9) fun t10 =>
  vK (loadV none t10 g) fun t11 =>
  vK (binL Try.prog .eql 3 true t11 (.int .i64 (0))) fun t12 =>
  gd t12 false g (fun K => K x0 g) fun t14 g =>
  gd t12 false g (fun K => vK (nilCheckP Try.prog t14) fun v => K v g) fun t15 g =>
  gd t12 false g (fun K => vK (fieldAddrL 259 t15) fun v => K v g) fun t16 g =>
  gd t12 false g (fun K => vK (loadV none t16 g) fun v => K v g) fun t17 g =>
  gd t12 false g (fun K => K x1 g) fun t18 g =>
  gd t12 false g (fun K => vK (binL Try.prog .neq 3 false t17 t18) fun v => K v g) fun t19 g =>
  vK (pickL t12 (.bool true) t19) fun t20 =>
  ifB t20 (
  K (.int .i64 (131)) g) (
  vK (nilCheckP Try.prog x0) fun t22 =>
  vK (fieldAddrL 259 t22) fun t23 =>
  gK (storeV 1 t23 (.int .i64 (0)) g) fun g =>
  K (.int .i64 (0)) g))
theorem ok7 {x0 x1 : LV} {g : LHeap} {K : LV → LHeap → Prop} (h : g.Wf → (∀ v ∈ ([x0, x1] : List LV), ∀ b ∈ v.objs, b < g.next) → F7 x0 x1 g K) : Ok Try.prog 7 [x0, x1] g K := by
  refine ok_fw Try.mixed Try.func7 (by kernel_rfl) (by kernel_rfl) (c := nd7 []) (by kernel_rfl) fun wf lt => ?_
  rw [← en7_eq]
  replace h := h wf lt
  generalize hs : startL _ = tm
  replace h : F7 (tm 0) (tm 1) g K := by rw [← hs]; exact h
  try unfold F7 at h
  refine code2_sound ok_mono _ _ _ ?_
  refine kmp ?_ h
  generalize Ok Try.prog = C
  try unfold en7
  as_aux_lemma => kernel_rfl

/-! (*parapet/space.Space).Lock (31 slots) -/
noncomputable def en8 (K : LV → LHeap → Prop) : LEx → LSt → Prop := fun e st => match e with
  | .exit _ => False
  | _ => K (st.tm 4) st.g
theorem en8_eq (K : LV → LHeap → Prop) : en8 K = endL Try.prog Try.f8 K := by
  funext e st
  cases e <;> kernel_rfl
noncomputable def nd8 (p : List Nat) : Code := subC p (bodyC Try.prog 8)
noncomputable def F8 (x0 x1 : LV) (g : LHeap) (K : LV → LHeap → Prop) : Prop :=
  Ok Try.prog 20 [x0] g fun t6 g =>
  vK (unL .not t6) fun t7 =>
  gd t7 false g (fun K => K x1 g) fun t9 g =>
  gd t7 false g (fun K => vK (binL Try.prog .lss 3 true t9 (.int .i64 (1))) fun v => K v g) fun t10 g =>
  vK (pickL t7 (.bool true) t10) fun t11 =>
  gd t11 false g (fun K => K x0 g) fun t13 g =>
  gd t11 false g (fun K => vK (nilCheckP Try.prog t13) fun v => K v g) fun t14 g =>
  gd t11 false g (fun K => vK (fieldAddrL 259 t14) fun v => K v g) fun t15 g =>
  gd t11 false g (fun K => vK (loadV none t15 g) fun v => K v g) fun t16 g =>
  gd t11 false g (fun K => vK (binL Try.prog .neq 3 true t16 (.int .i64 (0))) fun v => K v g) fun t17 g =>
  gd t11 false g (fun K => K t17 g) fun t18 g =>
  gd t18 true g (fun K => K x0 g) fun t19 g =>
  gd t18 true g (fun K => vK (nilCheckP Try.prog t19) fun v => K v g) fun t20 g =>
  gd t18 true g (fun K => vK (fieldAddrL 259 t20) fun v => K v g) fun t21 g =>
  gd t18 true g (fun K => vK (loadV none t21 g) fun v => K v g) fun t22 g =>
  gd t18 true g (fun K => K x1 g) fun t23 g =>
  gd t18 true g (fun K => vK (binL Try.prog .neq 3 false t22 t23) fun v => K v g) fun t24 g =>
  gd t11 false g (fun K => vK (pickL t18 t24 (.bool false)) fun v => K v g) fun t25 g =>
  vK (pickL t11 (.bool true) t25) fun t26 =>
  ifB t26 (
  K (.bool false) g) (
  vK (nilCheckP Try.prog x0) fun t29 =>
  vK (fieldAddrL 259 t29) fun t30 =>
  gK (storeV 1 t30 x1 g) fun g =>
  K (.bool true) g)
theorem ok8 {x0 x1 : LV} {g : LHeap} {K : LV → LHeap → Prop} (h : g.Wf → (∀ v ∈ ([x0, x1] : List LV), ∀ b ∈ v.objs, b < g.next) → F8 x0 x1 g K) : Ok Try.prog 8 [x0, x1] g K := by
  refine ok_fw Try.mixed Try.func8 (by kernel_rfl) (by kernel_rfl) (c := nd8 []) (by kernel_rfl) fun wf lt => ?_
  rw [← en8_eq]
  replace h := h wf lt
  generalize hs : startL _ = tm
  replace h : F8 (tm 0) (tm 1) g K := by rw [← hs]; exact h
  try unfold F8 at h
  refine code2_sound ok_mono _ _ _ ?_
  refine kmp ?_ h
  generalize Ok Try.prog = C
  try unfold en8
  as_aux_lemma => kernel_rfl

/-! (*parapet/space.Space).Locked (10 slots) -/
noncomputable def en9 (K : LV → LHeap → Prop) : LEx → LSt → Prop := fun e st => match e with
  | .exit _ => False
  | _ => K (st.tm 2) st.g
theorem en9_eq (K : LV → LHeap → Prop) : en9 K = endL Try.prog Try.f9 K := by
  funext e st
  cases e <;> kernel_rfl
noncomputable def nd9 (p : List Nat) : Code := subC p (bodyC Try.prog 9)
noncomputable def F9 (x0 : LV) (g : LHeap) (K : LV → LHeap → Prop) : Prop :=
  Ok Try.prog 20 [x0] g fun t4 g =>
  vK (unL .not t4) fun t5 =>
  ifB t5 (
  K (.int .i64 (0)) g) (
  vK (nilCheckP Try.prog x0) fun t7 =>
  vK (fieldAddrL 259 t7) fun t8 =>
  vK (loadV none t8 g) fun t9 =>
  K t9 g)
theorem ok9 {x0 : LV} {g : LHeap} {K : LV → LHeap → Prop} (h : g.Wf → (∀ v ∈ ([x0] : List LV), ∀ b ∈ v.objs, b < g.next) → F9 x0 g K) : Ok Try.prog 9 [x0] g K := by
  refine ok_fw Try.mixed Try.func9 (by kernel_rfl) (by kernel_rfl) (c := nd9 []) (by kernel_rfl) fun wf lt => ?_
  rw [← en9_eq]
  replace h := h wf lt
  generalize hs : startL _ = tm
  replace h : F9 (tm 0) g K := by rw [← hs]; exact h
  try unfold F9 at h
  refine code2_sound ok_mono _ _ _ ?_
  refine kmp ?_ h
  generalize Ok Try.prog = C
  try unfold en9
  as_aux_lemma => kernel_rfl

/-! parapet/phys.New (15 slots) -/
noncomputable def en10 (K : LV → LHeap → Prop) : LEx → LSt → Prop := fun e st => match e with
  | .exit _ => False
  | _ => K (.tuple [(st.tm 2), (st.tm 3)]) st.g
theorem en10_eq (K : LV → LHeap → Prop) : en10 K = endL Try.prog Try.f10 K := by
  funext e st
  cases e <;> kernel_rfl
noncomputable def nd10 (p : List Nat) : Code := subC p (bodyC Try.prog 10)
noncomputable def F10 (x0 : LV) (g : LHeap) (K : LV → LHeap → Prop) : Prop :=
  vK (binL Try.prog .lss 3 true x0 (.int .i64 (1))) fun t5 =>
  gd t5 false g (fun K => K x0 g) fun t7 g =>
  gd t5 false g (fun K => vK (binL Try.prog .gtr 3 true t7 (.int .i64 (4096))) fun v => K v g) fun t8 g =>
  vK (pickL t5 (.bool true) t8) fun t9 =>
  ifB t9 (
  K (.tuple [.nilp, (.int .i64 (1))]) g) (
  vK (binL Try.prog .mul 3 true x0 (.int .i64 (256))) fun t11 =>
  oK (makeSliceL Try.prog 67 t11 t11 g) fun t12 g =>
  vK (buildL Try.prog 69 [(0, t12)]) fun t13 =>
  oK (newL t13 g) fun t14 g =>
  K (.tuple [t14, (.int .i64 (0))]) g)
theorem ok10 {x0 : LV} {g : LHeap} {K : LV → LHeap → Prop} (h : g.Wf → (∀ v ∈ ([x0] : List LV), ∀ b ∈ v.objs, b < g.next) → F10 x0 g K) : Ok Try.prog 10 [x0] g K := by
  refine ok_fw Try.mixed Try.func10 (by kernel_rfl) (by kernel_rfl) (c := nd10 []) (by kernel_rfl) fun wf lt => ?_
  rw [← en10_eq]
  replace h := h wf lt
  generalize hs : startL _ = tm
  replace h : F10 (tm 0) g K := by rw [← hs]; exact h
  try unfold F10 at h
  refine code2_sound ok_mono _ _ _ ?_
  refine kmp ?_ h
  generalize Ok Try.prog = C
  try unfold en10
  as_aux_lemma => kernel_rfl

/-! parapet/frame.New (73 slots) -/
noncomputable def en11 (K : LV → LHeap → Prop) : LEx → LSt → Prop := fun e st => match e with
  | .exit _ => False
  | _ => K (.tuple [(st.tm 8), (st.tm 9)]) st.g
theorem en11_eq (K : LV → LHeap → Prop) : en11 K = endL Try.prog Try.f11 K := by
  funext e st
  cases e <;> kernel_rfl
noncomputable def nd11 (p : List Nat) : Code := subC p (bodyC Try.prog 11)
noncomputable def J11_3 (x10 : LV) (g : LHeap)  (K : LV → LHeap → Prop) : Prop :=
  K (.tuple [x10, (.int .i64 (0))]) g
abbrev kj11_3  (K : LV → LHeap → Prop) : LSt → Prop := fun st => J11_3 (st.tm 10) st.g  K
theorem J11_3_ok  (K : LV → LHeap → Prop) (tm : Nat → LV) (g : LHeap) (h : J11_3 (tm 10) g  K) : codeL Try.prog (Ok Try.prog) (nd11 [1, 1, 1, 1]) ⟨tm, g⟩ (en11 K) := by
  try unfold J11_3 at h
  refine code2_sound ok_mono _ _ _ ?_
  refine kmp ?_ h
  generalize Ok Try.prog = C
  try unfold en11
  as_aux_lemma => kernel_rfl

noncomputable def L11_5 (x0 x1 x2 x10 : LV) (x11 : LV) (g : LHeap) (N5 : LV → LHeap → Prop) (K : LV → LHeap → Prop) : Prop :=
  vK (binL Try.prog .add 3 false x1 x2) fun t55 =>
  vK (binL Try.prog .lss 3 false x11 t55) fun t56 =>
  ifB t56 (
  vK (nilCheckP Try.prog x10) fun t61 =>
  vK (fieldAddrL 12 t61) fun t62 =>
  vK (loadV none t62 g) fun t63 =>
  oK (buildSliceL Try.prog 22 1 [(0, x11)] g) fun t65 g =>
  oK (builtinL Try.prog .append [22, 22] [t63, t65] g) fun t66 g =>
  vK (nilCheckP Try.prog x10) fun t67 =>
  vK (fieldAddrL 12 t67) fun t68 =>
  gK (storeV 1 t68 t66 g) fun g =>
  Ok Try.prog 22 [x0, x11] g fun t71 g =>
  vK (binL Try.prog .add 3 true x11 (.int .i64 (1))) fun t58 =>
  N5 t58 g) (
  J11_3 x10 g  K)
theorem L11_5_ok (R5 : LV × LV × LV × LV → LV → LHeap → Prop) (K : LV → LHeap → Prop) (tm : Nat → LV) (g : LHeap) (h : L11_5 (tm 0) (tm 1) (tm 2) (tm 10) (tm 11) g (fun s g => R5 ((tm 0), (tm 1), (tm 2), (tm 10)) s g) K) : codeL Try.prog (Ok Try.prog) (nd11 [1, 1, 1, 0, 1, 0, 0]) ⟨tm, g⟩ (roundK (fun tm : Nat → LV => (tm 0, tm 1, tm 2, tm 10)) (fun tm : Nat → LV => tm 11) R5 (exitL 0 (thenL (kj11_3  K) (en11 K)))) := by
  try unfold L11_5 at h
  unfold kj11_3
  generalize @J11_3 = Q11_3 at h ⊢
  refine code2_sound ok_mono _ _ _ ?_
  refine kmp ?_ h
  generalize Ok Try.prog = C
  try unfold en11
  as_aux_lemma => kernel_rfl

noncomputable def J11_4 (x0 x1 x2 x10 x11 : LV) (g : LHeap)  (K : LV → LHeap → Prop) : Prop :=
  loopP (fun s g N => L11_5 x0 x1 x2 x10 s g N  K) x11 g
abbrev kj11_4  (K : LV → LHeap → Prop) : LSt → Prop := fun st => J11_4 (st.tm 0) (st.tm 1) (st.tm 2) (st.tm 10) (st.tm 11) st.g  K
theorem J11_4_ok  (K : LV → LHeap → Prop) (tm : Nat → LV) (g : LHeap) (h : J11_4 (tm 0) (tm 1) (tm 2) (tm 10) (tm 11) g  K) : codeL Try.prog (Ok Try.prog) (nd11 [1, 1, 1, 0, 1]) ⟨tm, g⟩ (thenL (kj11_3  K) (en11 K)) := by
  refine block_i (b := nd11 [1, 1, 1, 0, 1, 0]) (i := 0) (by kernel_rfl) ?_
  exact loop_glue (b := nd11 [1, 1, 1, 0, 1, 0, 0]) (by kernel_rfl) (fun tm : Nat → LV => (tm 0, tm 1, tm 2, tm 10)) (fun tm : Nat → LV => tm 11) (fun a s g N => L11_5 a.1 a.2.1 a.2.2.1 a.2.2.2 s g N  K) (fun tm g R h => L11_5_ok R  K tm g h) tm g h

noncomputable def J11_2 (x0 x1 x2 x10 : LV) (g : LHeap)  (K : LV → LHeap → Prop) : Prop :=
  J11_4 x0 x1 x2 x10 x1 g  K
abbrev kj11_2  (K : LV → LHeap → Prop) : LSt → Prop := fun st => J11_2 (st.tm 0) (st.tm 1) (st.tm 2) (st.tm 10) st.g  K
theorem J11_2_ok  (K : LV → LHeap → Prop) (tm : Nat → LV) (g : LHeap) (h : J11_2 (tm 0) (tm 1) (tm 2) (tm 10) g  K) : codeL Try.prog (Ok Try.prog) (nd11 [1, 1, 1]) ⟨tm, g⟩ (en11 K) := by
  refine seq_i (a := nd11 [1, 1, 1, 0]) (b := nd11 [1, 1, 1, 1]) (k' := kj11_3  K) (by kernel_rfl) (fun st h => J11_3_ok  K st.tm st.g h) ?_
  refine seq_i (a := nd11 [1, 1, 1, 0, 0]) (b := nd11 [1, 1, 1, 0, 1]) (k' := kj11_4  K) (by kernel_rfl) (fun st h => J11_4_ok  K st.tm st.g h) ?_
  try unfold J11_2 at h
  unfold kj11_4
  generalize @J11_4 = Q11_4 at h ⊢
  unfold kj11_3
  generalize @J11_3 = Q11_3 at h ⊢
  refine code2_sound ok_mono _ _ _ ?_
  refine kmp ?_ h
  generalize Ok Try.prog = C
  try unfold en11
  as_aux_lemma => kernel_rfl

noncomputable def J11_1 (x0 x1 x2 x3 : LV) (g : LHeap)  (K : LV → LHeap → Prop) : Prop :=
  oK (makeSliceL Try.prog 22 x2 x2 g) fun t48 g =>
  vK (buildL Try.prog 72 [(0, x0), (1, x1), (2, x3), (3, t48)]) fun t49 =>
  oK (newL t49 g) fun t50 g =>
  J11_2 x0 x1 x2 t50 g  K
abbrev kj11_1  (K : LV → LHeap → Prop) : LSt → Prop := fun st => J11_1 (st.tm 0) (st.tm 1) (st.tm 2) (st.tm 3) st.g  K
theorem J11_1_ok  (K : LV → LHeap → Prop) (tm : Nat → LV) (g : LHeap) (h : J11_1 (tm 0) (tm 1) (tm 2) (tm 3) g  K) : codeL Try.prog (Ok Try.prog) (nd11 [1, 1]) ⟨tm, g⟩ (en11 K) := by
  refine seq_i (a := nd11 [1, 1, 0]) (b := nd11 [1, 1, 1]) (k' := kj11_2  K) (by kernel_rfl) (fun st h => J11_2_ok  K st.tm st.g h) ?_
  try unfold J11_1 at h
  unfold kj11_2
  generalize @J11_2 = Q11_2 at h ⊢
  refine code2_sound ok_mono _ _ _ ?_
  refine kmp ?_ h
  generalize Ok Try.prog = C
  try unfold en11
  as_aux_lemma => kernel_rfl

noncomputable def J11_0 (x0 x1 x2 x3 : LV) (g : LHeap)  (K : LV → LHeap → Prop) : Prop :=
  vK (binL Try.prog .eql 29 true x0 .nilp) fun t13 =>
  gd t13 false g (fun K => K x3 g) fun t15 g =>
  gd t13 false g (fun K => vK (binL Try.prog .lss 3 true t15 (.int .i64 (1))) fun v => K v g) fun t16 g =>
  vK (pickL t13 (.bool true) t16) fun t17 =>
  gd t17 false g (fun K => K x3 g) fun t19 g =>
  gd t17 false g (fun K => vK (binL Try.prog .gtr 3 true t19 (.int .i64 (8))) fun v => K v g) fun t20 g =>
  vK (pickL t17 (.bool true) t20) fun t21 =>
  gd t21 false g (fun K => K x2 g) fun t23 g =>
  gd t21 false g (fun K => vK (binL Try.prog .lss 3 true t23 (.int .i64 (1))) fun v => K v g) fun t24 g =>
  vK (pickL t21 (.bool true) t24) fun t25 =>
  gd t25 false g (fun K => K x1 g) fun t27 g =>
  gd t25 false g (fun K => vK (binL Try.prog .lss 3 true t27 (.int .i64 (0))) fun v => K v g) fun t28 g =>
  vK (pickL t25 (.bool true) t28) fun t29 =>
  gd t29 false g (fun K => K x1 g) fun t31 g =>
  gd t29 false g (fun K => K x0 g) fun t32 g =>
  gd t29 false g (fun K => Ok Try.prog 21 [t32] g K) fun t33 g =>
  gd t29 false g (fun K => vK (binL Try.prog .gtr 3 false t31 t33) fun v => K v g) fun t34 g =>
  vK (pickL t29 (.bool true) t34) fun t35 =>
  gd t35 false g (fun K => K x2 g) fun t37 g =>
  gd t35 false g (fun K => K x0 g) fun t38 g =>
  gd t35 false g (fun K => Ok Try.prog 21 [t38] g K) fun t39 g =>
  gd t35 false g (fun K => K x1 g) fun t40 g =>
  gd t35 false g (fun K => vK (binL Try.prog .sub 3 false t39 t40) fun v => K v g) fun t41 g =>
  gd t35 false g (fun K => vK (binL Try.prog .gtr 3 false t37 t41) fun v => K v g) fun t42 g =>
  vK (pickL t35 (.bool true) t42) fun t43 =>
  ifB t43 (
  K (.tuple [.nilp, (.int .i64 (1))]) g) (
  J11_1 x0 x1 x2 x3 g  K)
abbrev kj11_0  (K : LV → LHeap → Prop) : LSt → Prop := fun st => J11_0 (st.tm 0) (st.tm 1) (st.tm 2) (st.tm 3) st.g  K
theorem J11_0_ok  (K : LV → LHeap → Prop) (tm : Nat → LV) (g : LHeap) (h : J11_0 (tm 0) (tm 1) (tm 2) (tm 3) g  K) : codeL Try.prog (Ok Try.prog) (nd11 [1]) ⟨tm, g⟩ (en11 K) := by
  refine seq_i (a := nd11 [1, 0]) (b := nd11 [1, 1]) (k' := kj11_1  K) (by kernel_rfl) (fun st h => J11_1_ok  K st.tm st.g h) ?_
  try unfold J11_0 at h
  unfold kj11_1
  generalize @J11_1 = Q11_1 at h ⊢
  refine code2_sound ok_mono _ _ _ ?_
  refine kmp ?_ h
  generalize Ok Try.prog = C
  try unfold en11
  as_aux_lemma => kernel_rfl

noncomputable def F11 (x0 x1 x2 x3 : LV) (g : LHeap) (K : LV → LHeap → Prop) : Prop :=
  J11_0 x0 x1 x2 x3 g  K
theorem ok11 {x0 x1 x2 x3 : LV} {g : LHeap} {K : LV → LHeap → Prop} (h : g.Wf → (∀ v ∈ ([x0, x1, x2, x3] : List LV), ∀ b ∈ v.objs, b < g.next) → F11 x0 x1 x2 x3 g K) : Ok Try.prog 11 [x0, x1, x2, x3] g K := by
  refine ok_fw Try.mixed Try.func11 (by kernel_rfl) (by kernel_rfl) (c := nd11 []) (by kernel_rfl) fun wf lt => ?_
  rw [← en11_eq]
  replace h := h wf lt
  generalize hs : startL _ = tm
  replace h : F11 (tm 0) (tm 1) (tm 2) (tm 3) g K := by rw [← hs]; exact h
  refine seq_i (a := nd11 [0]) (b := nd11 [1]) (k' := kj11_0  K) (by kernel_rfl) (fun st h => J11_0_ok  K st.tm st.g h) ?_
  try unfold F11 at h
  unfold kj11_0
  generalize @J11_0 = Q11_0 at h ⊢
  refine code2_sound ok_mono _ _ _ ?_
  refine kmp ?_ h
  generalize Ok Try.prog = C
  try unfold en11
  as_aux_lemma => kernel_rfl

/-! parapet/tlb.New (46 slots) -/
noncomputable def en12 (K : LV → LHeap → Prop) : LEx → LSt → Prop := fun e st => match e with
  | .exit _ => False
  | _ => K (.tuple [(st.tm 4), (st.tm 5)]) st.g
theorem en12_eq (K : LV → LHeap → Prop) : en12 K = endL Try.prog Try.f12 K := by
  funext e st
  cases e <;> kernel_rfl
noncomputable def nd12 (p : List Nat) : Code := subC p (bodyC Try.prog 12)
noncomputable def J12_3 (x6 : LV) (g : LHeap)  (K : LV → LHeap → Prop) : Prop :=
  K (.tuple [x6, (.int .i64 (0))]) g
abbrev kj12_3  (K : LV → LHeap → Prop) : LSt → Prop := fun st => J12_3 (st.tm 6) st.g  K
theorem J12_3_ok  (K : LV → LHeap → Prop) (tm : Nat → LV) (g : LHeap) (h : J12_3 (tm 6) g  K) : codeL Try.prog (Ok Try.prog) (nd12 [1, 1, 1, 1]) ⟨tm, g⟩ (en12 K) := by
  try unfold J12_3 at h
  refine code2_sound ok_mono _ _ _ ?_
  refine kmp ?_ h
  generalize Ok Try.prog = C
  try unfold en12
  as_aux_lemma => kernel_rfl

noncomputable def L12_5 (x6 x32 : LV) (x33 : LV) (g : LHeap) (N5 : LV → LHeap → Prop) (K : LV → LHeap → Prop) : Prop :=
  vK (binL Try.prog .lss 3 false x33 x32) fun t34 =>
  ifB t34 (
  vK (nilCheckP Try.prog x6) fun t37 =>
  vK (fieldAddrL 1 t37) fun t38 =>
  vK (loadV none t38 g) fun t39 =>
  mkK (.map g.next) (g.alloc (.map [] 0 .ex)) fun t41 g =>
  vK (ixAddrL none 2 t39 x33) fun t42 =>
  vK (fieldAddrL 0 t42) fun t43 =>
  gK (storeV 1 t43 t41 g) fun g =>
  vK (binL Try.prog .add 3 true x33 (.int .i64 (1))) fun t44 =>
  N5 t44 g) (
  J12_3 x6 g  K)
theorem L12_5_ok (R5 : LV × LV → LV → LHeap → Prop) (K : LV → LHeap → Prop) (tm : Nat → LV) (g : LHeap) (h : L12_5 (tm 6) (tm 32) (tm 33) g (fun s g => R5 ((tm 6), (tm 32)) s g) K) : codeL Try.prog (Ok Try.prog) (nd12 [1, 1, 1, 0, 1, 0, 0]) ⟨tm, g⟩ (roundK (fun tm : Nat → LV => (tm 6, tm 32)) (fun tm : Nat → LV => tm 33) R5 (exitL 0 (thenL (kj12_3  K) (en12 K)))) := by
  try unfold L12_5 at h
  unfold kj12_3
  generalize @J12_3 = Q12_3 at h ⊢
  refine code2_sound ok_mono _ _ _ ?_
  refine kmp ?_ h
  generalize Ok Try.prog = C
  try unfold en12
  as_aux_lemma => kernel_rfl

noncomputable def J12_4 (x6 x32 x33 : LV) (g : LHeap)  (K : LV → LHeap → Prop) : Prop :=
  loopP (fun s g N => L12_5 x6 x32 s g N  K) x33 g
abbrev kj12_4  (K : LV → LHeap → Prop) : LSt → Prop := fun st => J12_4 (st.tm 6) (st.tm 32) (st.tm 33) st.g  K
theorem J12_4_ok  (K : LV → LHeap → Prop) (tm : Nat → LV) (g : LHeap) (h : J12_4 (tm 6) (tm 32) (tm 33) g  K) : codeL Try.prog (Ok Try.prog) (nd12 [1, 1, 1, 0, 1]) ⟨tm, g⟩ (thenL (kj12_3  K) (en12 K)) := by
  refine block_i (b := nd12 [1, 1, 1, 0, 1, 0]) (i := 0) (by kernel_rfl) ?_
  exact loop_glue (b := nd12 [1, 1, 1, 0, 1, 0, 0]) (by kernel_rfl) (fun tm : Nat → LV => (tm 6, tm 32)) (fun tm : Nat → LV => tm 33) (fun a s g N => L12_5 a.1 a.2 s g N  K) (fun tm g R h => L12_5_ok R  K tm g h) tm g h

noncomputable def J12_2 (x6 : LV) (g : LHeap)  (K : LV → LHeap → Prop) : Prop :=
  vK (nilCheckP Try.prog x6) fun t29 =>
  vK (fieldAddrL 1 t29) fun t30 =>
  vK (loadV none t30 g) fun t31 =>
  oK (builtinL Try.prog .len [73] [t31] g) fun t32 g =>
  J12_4 x6 t32 (.int .i64 (0)) g  K
abbrev kj12_2  (K : LV → LHeap → Prop) : LSt → Prop := fun st => J12_2 (st.tm 6) st.g  K
theorem J12_2_ok  (K : LV → LHeap → Prop) (tm : Nat → LV) (g : LHeap) (h : J12_2 (tm 6) g  K) : codeL Try.prog (Ok Try.prog) (nd12 [1, 1, 1]) ⟨tm, g⟩ (en12 K) := by
  refine seq_i (a := nd12 [1, 1, 1, 0]) (b := nd12 [1, 1, 1, 1]) (k' := kj12_3  K) (by kernel_rfl) (fun st h => J12_3_ok  K st.tm st.g h) ?_
  refine seq_i (a := nd12 [1, 1, 1, 0, 0]) (b := nd12 [1, 1, 1, 0, 1]) (k' := kj12_4  K) (by kernel_rfl) (fun st h => J12_4_ok  K st.tm st.g h) ?_
  try unfold J12_2 at h
  unfold kj12_4
  generalize @J12_4 = Q12_4 at h ⊢
  unfold kj12_3
  generalize @J12_3 = Q12_3 at h ⊢
  refine code2_sound ok_mono _ _ _ ?_
  refine kmp ?_ h
  generalize Ok Try.prog = C
  try unfold en12
  as_aux_lemma => kernel_rfl

noncomputable def J12_1 (x0 x1 : LV) (g : LHeap)  (K : LV → LHeap → Prop) : Prop :=
  oK (makeSliceL Try.prog 73 x0 x0 g) fun t24 g =>
  mkK (.map g.next) (g.alloc (.map [] 0 .ex)) fun t25 g =>
  vK (buildL Try.prog 76 [(0, x1), (1, t24), (3, t25)]) fun t26 =>
  oK (newL t26 g) fun t27 g =>
  J12_2 t27 g  K
abbrev kj12_1  (K : LV → LHeap → Prop) : LSt → Prop := fun st => J12_1 (st.tm 0) (st.tm 1) st.g  K
theorem J12_1_ok  (K : LV → LHeap → Prop) (tm : Nat → LV) (g : LHeap) (h : J12_1 (tm 0) (tm 1) g  K) : codeL Try.prog (Ok Try.prog) (nd12 [1, 1]) ⟨tm, g⟩ (en12 K) := by
  refine seq_i (a := nd12 [1, 1, 0]) (b := nd12 [1, 1, 1]) (k' := kj12_2  K) (by kernel_rfl) (fun st h => J12_2_ok  K st.tm st.g h) ?_
  try unfold J12_1 at h
  unfold kj12_2
  generalize @J12_2 = Q12_2 at h ⊢
  refine code2_sound ok_mono _ _ _ ?_
  refine kmp ?_ h
  generalize Ok Try.prog = C
  try unfold en12
  as_aux_lemma => kernel_rfl

noncomputable def J12_0 (x0 x1 : LV) (g : LHeap)  (K : LV → LHeap → Prop) : Prop :=
  vK (binL Try.prog .lss 3 true x0 (.int .i64 (1))) fun t9 =>
  gd t9 false g (fun K => K x0 g) fun t11 g =>
  gd t9 false g (fun K => vK (binL Try.prog .gtr 3 true t11 (.int .i64 (8))) fun v => K v g) fun t12 g =>
  vK (pickL t9 (.bool true) t12) fun t13 =>
  gd t13 false g (fun K => K x1 g) fun t15 g =>
  gd t13 false g (fun K => vK (binL Try.prog .lss 3 true t15 (.int .i64 (1))) fun v => K v g) fun t16 g =>
  vK (pickL t13 (.bool true) t16) fun t17 =>
  gd t17 false g (fun K => K x1 g) fun t19 g =>
  gd t17 false g (fun K => vK (binL Try.prog .gtr 3 true t19 (.int .i64 (64))) fun v => K v g) fun t20 g =>
  vK (pickL t17 (.bool true) t20) fun t21 =>
  ifB t21 (
  K (.tuple [.nilp, (.int .i64 (1))]) g) (
  J12_1 x0 x1 g  K)
abbrev kj12_0  (K : LV → LHeap → Prop) : LSt → Prop := fun st => J12_0 (st.tm 0) (st.tm 1) st.g  K
theorem J12_0_ok  (K : LV → LHeap → Prop) (tm : Nat → LV) (g : LHeap) (h : J12_0 (tm 0) (tm 1) g  K) : codeL Try.prog (Ok Try.prog) (nd12 [1]) ⟨tm, g⟩ (en12 K) := by
  refine seq_i (a := nd12 [1, 0]) (b := nd12 [1, 1]) (k' := kj12_1  K) (by kernel_rfl) (fun st h => J12_1_ok  K st.tm st.g h) ?_
  try unfold J12_0 at h
  unfold kj12_1
  generalize @J12_1 = Q12_1 at h ⊢
  refine code2_sound ok_mono _ _ _ ?_
  refine kmp ?_ h
  generalize Ok Try.prog = C
  try unfold en12
  as_aux_lemma => kernel_rfl

noncomputable def F12 (x0 x1 : LV) (g : LHeap) (K : LV → LHeap → Prop) : Prop :=
  J12_0 x0 x1 g  K
theorem ok12 {x0 x1 : LV} {g : LHeap} {K : LV → LHeap → Prop} (h : g.Wf → (∀ v ∈ ([x0, x1] : List LV), ∀ b ∈ v.objs, b < g.next) → F12 x0 x1 g K) : Ok Try.prog 12 [x0, x1] g K := by
  refine ok_fw Try.mixed Try.func12 (by kernel_rfl) (by kernel_rfl) (c := nd12 []) (by kernel_rfl) fun wf lt => ?_
  rw [← en12_eq]
  replace h := h wf lt
  generalize hs : startL _ = tm
  replace h : F12 (tm 0) (tm 1) g K := by rw [← hs]; exact h
  refine seq_i (a := nd12 [0]) (b := nd12 [1]) (k' := kj12_0  K) (by kernel_rfl) (fun st h => J12_0_ok  K st.tm st.g h) ?_
  try unfold F12 at h
  unfold kj12_0
  generalize @J12_0 = Q12_0 at h ⊢
  refine code2_sound ok_mono _ _ _ ?_
  refine kmp ?_ h
  generalize Ok Try.prog = C
  try unfold en12
  as_aux_lemma => kernel_rfl

/-! parapet/space.NewWorld (23 slots) -/
noncomputable def en13 (K : LV → LHeap → Prop) : LEx → LSt → Prop := fun e st => match e with
  | .exit _ => False
  | _ => K (.tuple [(st.tm 6), (st.tm 7)]) st.g
theorem en13_eq (K : LV → LHeap → Prop) : en13 K = endL Try.prog Try.f13 K := by
  funext e st
  cases e <;> kernel_rfl
noncomputable def nd13 (p : List Nat) : Code := subC p (bodyC Try.prog 13)
noncomputable def F13 (x0 x1 x2 : LV) (g : LHeap) (K : LV → LHeap → Prop) : Prop :=
  vK (binL Try.prog .eql 29 true x0 .nilp) fun t9 =>
  gd t9 false g (fun K => K x1 g) fun t11 g =>
  gd t9 false g (fun K => vK (binL Try.prog .eql 30 true t11 .nilp) fun v => K v g) fun t12 g =>
  vK (pickL t9 (.bool true) t12) fun t13 =>
  gd t13 false g (fun K => K x2 g) fun t15 g =>
  gd t13 false g (fun K => vK (binL Try.prog .eql 31 true t15 .nilp) fun v => K v g) fun t16 g =>
  vK (pickL t13 (.bool true) t16) fun t17 =>
  ifB t17 (
  K (.tuple [.nilp, (.int .i64 (1))]) g) (
  vK (buildL Try.prog 59 [(0, x0), (1, x1), (2, x2)]) fun t21 =>
  oK (newL t21 g) fun t22 g =>
  K (.tuple [t22, (.int .i64 (0))]) g)
theorem ok13 {x0 x1 x2 : LV} {g : LHeap} {K : LV → LHeap → Prop} (h : g.Wf → (∀ v ∈ ([x0, x1, x2] : List LV), ∀ b ∈ v.objs, b < g.next) → F13 x0 x1 x2 g K) : Ok Try.prog 13 [x0, x1, x2] g K := by
  refine ok_fw Try.mixed Try.func13 (by kernel_rfl) (by kernel_rfl) (c := nd13 []) (by kernel_rfl) fun wf lt => ?_
  rw [← en13_eq]
  replace h := h wf lt
  generalize hs : startL _ = tm
  replace h : F13 (tm 0) (tm 1) (tm 2) g K := by rw [← hs]; exact h
  try unfold F13 at h
  refine code2_sound ok_mono _ _ _ ?_
  refine kmp ?_ h
  generalize Ok Try.prog = C
  try unfold en13
  as_aux_lemma => kernel_rfl

/-! (*parapet/frame.Frames).Alloc (74 slots) -/
noncomputable def en18 (K : LV → LHeap → Prop) : LEx → LSt → Prop := fun e st => match e with
  | .exit _ => False
  | _ => K (.tuple [(st.tm 4), (st.tm 5)]) st.g
theorem en18_eq (K : LV → LHeap → Prop) : en18 K = endL Try.prog Try.f18 K := by
  funext e st
  cases e <;> kernel_rfl
noncomputable def nd18 (p : List Nat) : Code := subC p (bodyC Try.prog 18)
noncomputable def J18_2 (x0 x1 : LV) (g : LHeap)  (K : LV → LHeap → Prop) : Prop :=
  vK (nilCheckP Try.prog x0) fun t34 =>
  vK (fieldAddrL 4 t34) fun t35 =>
  vK (ixAddrL (some 8) 1 t35 x1) fun t36 =>
  vK (loadV none t36 g) fun t37 =>
  oK (builtinL Try.prog .len [22] [t37] g) fun t38 g =>
  vK (binL Try.prog .sub 3 true t38 (.int .i64 (1))) fun t39 =>
  vK (nilCheckP Try.prog x0) fun t42 =>
  vK (fieldAddrL 4 t42) fun t43 =>
  vK (ixAddrL (some 8) 1 t43 x1) fun t44 =>
  vK (loadV none t44 g) fun t45 =>
  vK (ixAddrL none 1 t45 t39) fun t47 =>
  vK (loadV none t47 g) fun t48 =>
  vK (nilCheckP Try.prog x0) fun t53 =>
  vK (fieldAddrL 4 t53) fun t54 =>
  vK (ixAddrL (some 8) 1 t54 x1) fun t55 =>
  vK (loadV none t55 g) fun t56 =>
  vK (cutT Try.prog 22 t56 none (some t39) none (limL t56 g)) fun t58 =>
  vK (nilCheckP Try.prog x0) fun t59 =>
  vK (fieldAddrL 4 t59) fun t60 =>
  vK (ixAddrL (some 8) 1 t60 x1) fun t61 =>
  ((gK (storeV 1 t61 t58 g) fun g =>
  
  vK (nilCheckP Try.prog x0) fun t63 =>
  vK (fieldAddrL 3 t63) fun t64 =>
  vK (loadV none t64 g) fun t65 =>
  vK (nilCheckP Try.prog x0) fun t68 =>
  vK (fieldAddrL 1 t68) fun t69 =>
  vK (loadV none t69 g) fun t70 =>
  vK (binL Try.prog .sub 3 false t48 t70) fun t71 =>
  vK (ixAddrL none 1 t65 t71) fun t72 =>
  ((gK (storeV 1 t72 (.int .i64 (1)) g) fun g =>
  
  K (.tuple [t48, (.int .i64 (0))]) g) ∧ True)) ∧ True)
abbrev kj18_2  (K : LV → LHeap → Prop) : LSt → Prop := fun st => J18_2 (st.tm 0) (st.tm 1) st.g  K
theorem J18_2_ok  (K : LV → LHeap → Prop) (tm : Nat → LV) (g : LHeap) (h : J18_2 (tm 0) (tm 1) g  K) : codeL Try.prog (Ok Try.prog) (nd18 [1, 1, 1]) ⟨tm, g⟩ (en18 K) := by
  try unfold J18_2 at h
  refine code3_sound ok_mono (pl := [(11, (.lt 0 false (.lt 1 false (.lt 2 false (.lt 3 false (.lt 4 false (.lt 5 false (.lt 6 false (.lt 7 false (.lt 8 false (.lt 9 false (.lt 10 false (.lt 11 false (.lt 12 false (.hv 13 .nil .nil)))))))))))))))]) _ _ _ (by kernel_rfl) ?_
  refine kmp ?_ h
  generalize Ok Try.prog = C
  try unfold en18
  as_aux_lemma => kernel_rfl

noncomputable def J18_1 (x0 x1 : LV) (g : LHeap)  (K : LV → LHeap → Prop) : Prop :=
  vK (nilCheckP Try.prog x0) fun t23 =>
  vK (fieldAddrL 4 t23) fun t24 =>
  vK (ixAddrL (some 8) 1 t24 x1) fun t25 =>
  vK (loadV none t25 g) fun t26 =>
  oK (builtinL Try.prog .len [22] [t26] g) fun t27 g =>
  vK (binL Try.prog .eql 3 true t27 (.int .i64 (0))) fun t28 =>
  ifB t28 (
  Ok Try.prog 40 [x0, x1] g fun t31 g =>
  J18_2 x0 x1 g  K) (
  J18_2 x0 x1 g  K)
abbrev kj18_1  (K : LV → LHeap → Prop) : LSt → Prop := fun st => J18_1 (st.tm 0) (st.tm 1) st.g  K
theorem J18_1_ok  (K : LV → LHeap → Prop) (tm : Nat → LV) (g : LHeap) (h : J18_1 (tm 0) (tm 1) g  K) : codeL Try.prog (Ok Try.prog) (nd18 [1, 1]) ⟨tm, g⟩ (en18 K) := by
  refine seq_i (a := nd18 [1, 1, 0]) (b := nd18 [1, 1, 1]) (k' := kj18_2  K) (by kernel_rfl) (fun st h => J18_2_ok  K st.tm st.g h) ?_
  try unfold J18_1 at h
  unfold kj18_2
  generalize @J18_2 = Q18_2 at h ⊢
  refine code2_sound ok_mono _ _ _ ?_
  refine kmp ?_ h
  generalize Ok Try.prog = C
  try unfold en18
  as_aux_lemma => kernel_rfl

noncomputable def J18_0 (x0 x1 : LV) (g : LHeap)  (K : LV → LHeap → Prop) : Prop :=
  Ok Try.prog 37 [x0] g fun t10 g =>
  vK (unL .not t10) fun t11 =>
  ifB t11 (
  K (.tuple [(.int .i64 (0)), (.int .i64 (6))]) g) (
  Ok Try.prog 38 [x0, x1] g fun t15 g =>
  vK (unL .not t15) fun t16 =>
  ifB t16 (
  K (.tuple [(.int .i64 (0)), (.int .i64 (1))]) g) (
  Ok Try.prog 39 [x0] g fun t19 g =>
  vK (binL Try.prog .eql 3 true t19 (.int .i64 (0))) fun t20 =>
  ifB t20 (
  K (.tuple [(.int .i64 (0)), (.int .i64 (2))]) g) (
  J18_1 x0 x1 g  K)))
abbrev kj18_0  (K : LV → LHeap → Prop) : LSt → Prop := fun st => J18_0 (st.tm 0) (st.tm 1) st.g  K
theorem J18_0_ok  (K : LV → LHeap → Prop) (tm : Nat → LV) (g : LHeap) (h : J18_0 (tm 0) (tm 1) g  K) : codeL Try.prog (Ok Try.prog) (nd18 [1]) ⟨tm, g⟩ (en18 K) := by
  refine seq_i (a := nd18 [1, 0]) (b := nd18 [1, 1]) (k' := kj18_1  K) (by kernel_rfl) (fun st h => J18_1_ok  K st.tm st.g h) ?_
  try unfold J18_0 at h
  unfold kj18_1
  generalize @J18_1 = Q18_1 at h ⊢
  refine code2_sound ok_mono _ _ _ ?_
  refine kmp ?_ h
  generalize Ok Try.prog = C
  try unfold en18
  as_aux_lemma => kernel_rfl

noncomputable def F18 (x0 x1 : LV) (g : LHeap) (K : LV → LHeap → Prop) : Prop :=
  J18_0 x0 x1 g  K
theorem ok18 {x0 x1 : LV} {g : LHeap} {K : LV → LHeap → Prop} (h : g.Wf → (∀ v ∈ ([x0, x1] : List LV), ∀ b ∈ v.objs, b < g.next) → F18 x0 x1 g K) : Ok Try.prog 18 [x0, x1] g K := by
  refine ok_fw Try.mixed Try.func18 (by kernel_rfl) (by kernel_rfl) (c := nd18 []) (by kernel_rfl) fun wf lt => ?_
  rw [← en18_eq]
  replace h := h wf lt
  generalize hs : startL _ = tm
  replace h : F18 (tm 0) (tm 1) g K := by rw [← hs]; exact h
  refine seq_i (a := nd18 [0]) (b := nd18 [1]) (k' := kj18_0  K) (by kernel_rfl) (fun st h => J18_0_ok  K st.tm st.g h) ?_
  try unfold F18 at h
  unfold kj18_0
  generalize @J18_0 = Q18_0 at h ⊢
  refine code2_sound ok_mono _ _ _ ?_
  refine kmp ?_ h
  generalize Ok Try.prog = C
  try unfold en18
  as_aux_lemma => kernel_rfl

/-! parapet/ptab.New (19 slots) -/
noncomputable def en19 (K : LV → LHeap → Prop) : LEx → LSt → Prop := fun e st => match e with
  | .exit _ => False
  | _ => K (.tuple [(st.tm 4), (st.tm 5)]) st.g
theorem en19_eq (K : LV → LHeap → Prop) : en19 K = endL Try.prog Try.f19 K := by
  funext e st
  cases e <;> kernel_rfl
noncomputable def nd19 (p : List Nat) : Code := subC p (bodyC Try.prog 19)
noncomputable def F19 (x0 x1 : LV) (g : LHeap) (K : LV → LHeap → Prop) : Prop :=
  vK (binL Try.prog .eql 29 true x0 .nilp) fun t8 =>
  ifB t8 (
  K (.tuple [.nilp, (.int .i64 (1))]) g) (
  Ok Try.prog 22 [x0, x1] g fun t11 g =>
  vK (binL Try.prog .neq 27 true t11 (.int .i64 (0))) fun t13 =>
  ifB t13 (
  K (.tuple [.nilp, t11]) g) (
  vK (buildL Try.prog 99 [(0, x0), (1, x1)]) fun t17 =>
  oK (newL t17 g) fun t18 g =>
  K (.tuple [t18, (.int .i64 (0))]) g))
theorem ok19 {x0 x1 : LV} {g : LHeap} {K : LV → LHeap → Prop} (h : g.Wf → (∀ v ∈ ([x0, x1] : List LV), ∀ b ∈ v.objs, b < g.next) → F19 x0 x1 g K) : Ok Try.prog 19 [x0, x1] g K := by
  refine ok_fw Try.mixed Try.func19 (by kernel_rfl) (by kernel_rfl) (c := nd19 []) (by kernel_rfl) fun wf lt => ?_
  rw [← en19_eq]
  replace h := h wf lt
  generalize hs : startL _ = tm
  replace h : F19 (tm 0) (tm 1) g K := by rw [← hs]; exact h
  try unfold F19 at h
  refine code2_sound ok_mono _ _ _ ?_
  refine kmp ?_ h
  generalize Ok Try.prog = C
  try unfold en19
  as_aux_lemma => kernel_rfl

/-! (*parapet/space.Space).made (12 slots) -/
noncomputable def en20 (K : LV → LHeap → Prop) : LEx → LSt → Prop := fun e st => match e with
  | .exit _ => False
  | _ => K (st.tm 2) st.g
theorem en20_eq (K : LV → LHeap → Prop) : en20 K = endL Try.prog Try.f20 K := by
  funext e st
  cases e <;> kernel_rfl
noncomputable def nd20 (p : List Nat) : Code := subC p (bodyC Try.prog 20)
noncomputable def F20 (x0 : LV) (g : LHeap) (K : LV → LHeap → Prop) : Prop :=
  vK (binL Try.prog .neq 26 true x0 .nilp) fun t4 =>
  gd t4 true g (fun K => K x0 g) fun t6 g =>
  gd t4 true g (fun K => vK (nilCheckP Try.prog t6) fun v => K v g) fun t7 g =>
  gd t4 true g (fun K => vK (fieldAddrL 0 t7) fun v => K v g) fun t8 g =>
  gd t4 true g (fun K => vK (loadV none t8 g) fun v => K v g) fun t9 g =>
  gd t4 true g (fun K => vK (binL Try.prog .neq 32 true t9 .nilp) fun v => K v g) fun t10 g =>
  vK (pickL t4 t10 (.bool false)) fun t11 =>
  K t11 g
theorem ok20 {x0 : LV} {g : LHeap} {K : LV → LHeap → Prop} (h : g.Wf → (∀ v ∈ ([x0] : List LV), ∀ b ∈ v.objs, b < g.next) → F20 x0 g K) : Ok Try.prog 20 [x0] g K := by
  refine ok_fw Try.mixed Try.func20 (by kernel_rfl) (by kernel_rfl) (c := nd20 []) (by kernel_rfl) fun wf lt => ?_
  rw [← en20_eq]
  replace h := h wf lt
  generalize hs : startL _ = tm
  replace h : F20 (tm 0) g K := by rw [← hs]; exact h
  try unfold F20 at h
  refine code2_sound ok_mono _ _ _ ?_
  refine kmp ?_ h
  generalize Ok Try.prog = C
  try unfold en20
  as_aux_lemma => kernel_rfl

/-! (*parapet/phys.Mem).Frames (11 slots) -/
noncomputable def en21 (K : LV → LHeap → Prop) : LEx → LSt → Prop := fun e st => match e with
  | .exit _ => False
  | _ => K (st.tm 2) st.g
theorem en21_eq (K : LV → LHeap → Prop) : en21 K = endL Try.prog Try.f21 K := by
  funext e st
  cases e <;> kernel_rfl
noncomputable def nd21 (p : List Nat) : Code := subC p (bodyC Try.prog 21)
noncomputable def F21 (x0 : LV) (g : LHeap) (K : LV → LHeap → Prop) : Prop :=
  vK (binL Try.prog .eql 29 true x0 .nilp) fun t4 =>
  ifB t4 (
  K (.int .i64 (0)) g) (
  vK (nilCheckP Try.prog x0) fun t6 =>
  vK (fieldAddrL 0 t6) fun t7 =>
  vK (loadV none t7 g) fun t8 =>
  oK (builtinL Try.prog .len [67] [t8] g) fun t9 g =>
  vK (binL Try.prog .quo 3 true t9 (.int .i64 (256))) fun t10 =>
  K t10 g)
theorem ok21 {x0 : LV} {g : LHeap} {K : LV → LHeap → Prop} (h : g.Wf → (∀ v ∈ ([x0] : List LV), ∀ b ∈ v.objs, b < g.next) → F21 x0 g K) : Ok Try.prog 21 [x0] g K := by
  refine ok_fw Try.mixed Try.func21 (by kernel_rfl) (by kernel_rfl) (c := nd21 []) (by kernel_rfl) fun wf lt => ?_
  rw [← en21_eq]
  replace h := h wf lt
  generalize hs : startL _ = tm
  replace h : F21 (tm 0) g K := by rw [← hs]; exact h
  try unfold F21 at h
  refine code2_sound ok_mono _ _ _ ?_
  refine kmp ?_ h
  generalize Ok Try.prog = C
  try unfold en21
  as_aux_lemma => kernel_rfl

/-! (*parapet/phys.Mem).Zero (15 slots) -/
noncomputable def en22 (K : LV → LHeap → Prop) : LEx → LSt → Prop := fun e st => match e with
  | .exit _ => False
  | _ => K (st.tm 4) st.g
theorem en22_eq (K : LV → LHeap → Prop) : en22 K = endL Try.prog Try.f22 K := by
  funext e st
  cases e <;> kernel_rfl
noncomputable def nd22 (p : List Nat) : Code := subC p (bodyC Try.prog 22)
noncomputable def F22 (x0 x1 : LV) (g : LHeap) (K : LV → LHeap → Prop) : Prop :=
  Ok Try.prog 41 [x0, x1] g fun t10 g =>
  vK (extractL t10 0) fun t11 =>
  vK (extractL t10 1) fun t12 =>
  oK (builtinL Try.prog .clear [67] [t11] g) fun u g =>
  K t12 g
theorem ok22 {x0 x1 : LV} {g : LHeap} {K : LV → LHeap → Prop} (h : g.Wf → (∀ v ∈ ([x0, x1] : List LV), ∀ b ∈ v.objs, b < g.next) → F22 x0 x1 g K) : Ok Try.prog 22 [x0, x1] g K := by
  refine ok_fw Try.mixed Try.func22 (by kernel_rfl) (by kernel_rfl) (c := nd22 []) (by kernel_rfl) fun wf lt => ?_
  rw [← en22_eq]
  replace h := h wf lt
  generalize hs : startL _ = tm
  replace h : F22 (tm 0) (tm 1) g K := by rw [← hs]; exact h
  try unfold F22 at h
  refine code2_sound ok_mono _ _ _ ?_
  refine kmp ?_ h
  generalize Ok Try.prog = C
  try unfold en22
  as_aux_lemma => kernel_rfl

/-! (*parapet/tlb.Tlb).Harts (10 slots) -/
noncomputable def en25 (K : LV → LHeap → Prop) : LEx → LSt → Prop := fun e st => match e with
  | .exit _ => False
  | _ => K (st.tm 2) st.g
theorem en25_eq (K : LV → LHeap → Prop) : en25 K = endL Try.prog Try.f25 K := by
  funext e st
  cases e <;> kernel_rfl
noncomputable def nd25 (p : List Nat) : Code := subC p (bodyC Try.prog 25)
noncomputable def F25 (x0 : LV) (g : LHeap) (K : LV → LHeap → Prop) : Prop :=
  vK (binL Try.prog .eql 31 true x0 .nilp) fun t4 =>
  ifB t4 (
  K (.int .i64 (0)) g) (
  vK (nilCheckP Try.prog x0) fun t6 =>
  vK (fieldAddrL 1 t6) fun t7 =>
  vK (loadV none t7 g) fun t8 =>
  oK (builtinL Try.prog .len [73] [t8] g) fun t9 g =>
  K t9 g)
theorem ok25 {x0 : LV} {g : LHeap} {K : LV → LHeap → Prop} (h : g.Wf → (∀ v ∈ ([x0] : List LV), ∀ b ∈ v.objs, b < g.next) → F25 x0 g K) : Ok Try.prog 25 [x0] g K := by
  refine ok_fw Try.mixed Try.func25 (by kernel_rfl) (by kernel_rfl) (c := nd25 []) (by kernel_rfl) fun wf lt => ?_
  rw [← en25_eq]
  replace h := h wf lt
  generalize hs : startL _ = tm
  replace h : F25 (tm 0) g K := by rw [← hs]; exact h
  try unfold F25 at h
  refine code2_sound ok_mono _ _ _ ?_
  refine kmp ?_ h
  generalize Ok Try.prog = C
  try unfold en25
  as_aux_lemma => kernel_rfl

/-! (*parapet/tlb.Tlb).Look (29 slots) -/
noncomputable def en26 (K : LV → LHeap → Prop) : LEx → LSt → Prop := fun e st => match e with
  | .exit _ => False
  | _ => K (.tuple [(st.tm 6), (st.tm 7)]) st.g
theorem en26_eq (K : LV → LHeap → Prop) : en26 K = endL Try.prog Try.f26 K := by
  funext e st
  cases e <;> kernel_rfl
noncomputable def nd26 (p : List Nat) : Code := subC p (bodyC Try.prog 26)
noncomputable def F26 (x0 x1 x2 : LV) (g : LHeap) (K : LV → LHeap → Prop) : Prop :=
  oK (newL x2 g) fun t5 g =>
  Ok Try.prog 43 [x0, x1] g fun t12 g =>
  vK (unL .not t12) fun t13 =>
  ifB t13 (
  K (.tuple [(.int .u32 (0)), (.bool false)]) g) (
  vK (nilCheckP Try.prog x0) fun t16 =>
  vK (fieldAddrL 1 t16) fun t17 =>
  vK (loadV none t17 g) fun t18 =>
  vK (ixAddrL none 2 t18 x1) fun t20 =>
  vK (fieldAddrL 0 t20) fun t21 =>
  vK (loadV none t21 g) fun t22 =>
  vK (loadV (some 2) t5 g) fun t23 =>
  vK (lookupL Try.prog 77 t22 t23 true g) fun t24 =>
  vK (extractL t24 0) fun t25 =>
  vK (extractL t24 1) fun t26 =>
  K (.tuple [t25, t26]) g)
theorem ok26 {x0 x1 x2 : LV} {g : LHeap} {K : LV → LHeap → Prop} (h : g.Wf → (∀ v ∈ ([x0, x1, x2] : List LV), ∀ b ∈ v.objs, b < g.next) → F26 x0 x1 x2 g K) : Ok Try.prog 26 [x0, x1, x2] g K := by
  refine ok_fw Try.mixed Try.func26 (by kernel_rfl) (by kernel_rfl) (c := nd26 []) (by kernel_rfl) fun wf lt => ?_
  rw [← en26_eq]
  replace h := h wf lt
  generalize hs : startL _ = tm
  replace h : F26 (tm 0) (tm 1) (tm 2) g K := by rw [← hs]; exact h
  try unfold F26 at h
  refine code3_sound ok_mono (pl := [(3, (.lt 0 false (.lt 1 false (.lt 2 false (.lt 3 false (.lt 4 false (.lt 5 false (.lt 6 false (.lt 7 false (.lt 8 false (.lt 9 false (.lt 10 false (.lt 11 false (.lt 12 false (.lt 13 false (.lt 14 false .nil))))))))))))))))]) _ _ _ (by kernel_rfl) ?_
  refine kmp ?_ h
  generalize Ok Try.prog = C
  try unfold en26
  as_aux_lemma => kernel_rfl

/-! (*parapet/tlb.Tlb).Fill (79 slots) -/
noncomputable def en29 (K : LV → LHeap → Prop) : LEx → LSt → Prop := fun e st => match e with
  | .exit _ => False
  | _ => K (st.tm 8) st.g
theorem en29_eq (K : LV → LHeap → Prop) : en29 K = endL Try.prog Try.f29 K := by
  funext e st
  cases e <;> kernel_rfl
noncomputable def nd29 (p : List Nat) : Code := subC p (bodyC Try.prog 29)
noncomputable def J29_4 (x3 x6 x9 : LV) (g : LHeap)  (K : LV → LHeap → Prop) : Prop :=
  vK (nilCheckP Try.prog x9) fun t74 =>
  vK (fieldAddrL 0 t74) fun t75 =>
  vK (loadV none t75 g) fun t76 =>
  vK (loadV (some 2) x6 g) fun t77 =>
  ((gK (mapSetL Try.prog 77 t76 t77 x3 g) fun g =>
  
  K (.int .i64 (0)) g) ∧ True)
abbrev kj29_4  (K : LV → LHeap → Prop) : LSt → Prop := fun st => J29_4 (st.tm 3) (st.tm 6) (st.tm 9) st.g  K
theorem J29_4_ok  (K : LV → LHeap → Prop) (tm : Nat → LV) (g : LHeap) (h : J29_4 (tm 3) (tm 6) (tm 9) g  K) : codeL Try.prog (Ok Try.prog) (nd29 [1, 1, 1, 1, 1]) ⟨tm, g⟩ (en29 K) := by
  try unfold J29_4 at h
  refine code2_sound ok_mono _ _ _ ?_
  refine kmp ?_ h
  generalize Ok Try.prog = C
  try unfold en29
  as_aux_lemma => kernel_rfl

noncomputable def J29_7 (x3 x6 x9 : LV) (g : LHeap)  (K : LV → LHeap → Prop) : Prop :=
  vK (nilCheckP Try.prog x9) fun t65 =>
  vK (fieldAddrL 1 t65) fun t66 =>
  vK (loadV none t66 g) fun t67 =>
  vK (loadV (some 2) x6 g) fun t68 =>
  ((oK (buildSliceL Try.prog 78 1 [(0, t68)] g) fun t69 g =>
  ((loadV none t66 g) = some t67 ∧ 
  ((oK (builtinL Try.prog .append [78, 78] [t67, t69] g) fun t70 g =>
  
  vK (nilCheckP Try.prog x9) fun t71 =>
  vK (fieldAddrL 1 t71) fun t72 =>
  ((gK (storeV 1 t72 t70 g) fun g =>
  
  J29_4 x3 x6 x9 g  K) ∧ True)) ∧ True))) ∧ True)
abbrev kj29_7  (K : LV → LHeap → Prop) : LSt → Prop := fun st => J29_7 (st.tm 3) (st.tm 6) (st.tm 9) st.g  K
theorem J29_7_ok  (K : LV → LHeap → Prop) (tm : Nat → LV) (g : LHeap) (h : J29_7 (tm 3) (tm 6) (tm 9) g  K) : codeL Try.prog (Ok Try.prog) (nd29 [1, 1, 1, 1, 0, 1, 1, 0, 1]) ⟨tm, g⟩ (thenL (kj29_4  K) (en29 K)) := by
  try unfold J29_7 at h
  unfold kj29_4
  generalize @J29_4 = Q29_4 at h ⊢
  refine code2_sound ok_mono _ _ _ ?_
  refine kmp ?_ h
  generalize Ok Try.prog = C
  try unfold en29
  as_aux_lemma => kernel_rfl

noncomputable def J29_6 (x0 x3 x6 x9 x34 : LV) (g : LHeap)  (K : LV → LHeap → Prop) : Prop :=
  ifB x34 (
  vK (nilCheckP Try.prog x9) fun t36 =>
  vK (fieldAddrL 1 t36) fun t37 =>
  vK (loadV none t37 g) fun t38 =>
  vK (lenL Try.prog 78 t38 g) fun t39 =>
  vK (nilCheckP Try.prog x0) fun t41 =>
  vK (fieldAddrL 0 t41) fun t42 =>
  vK (loadV none t42 g) fun t43 =>
  vK (binL Try.prog .geq 3 false t39 t43) fun t44 =>
  ifB t44 (
  vK (nilCheckP Try.prog x9) fun t46 =>
  vK (fieldAddrL 0 t46) fun t47 =>
  vK (loadV none t47 g) fun t48 =>
  vK (nilCheckP Try.prog x9) fun t50 =>
  vK (fieldAddrL 1 t50) fun t51 =>
  vK (loadV none t51 g) fun t52 =>
  vK (ixAddrL none 2 t52 (.int .i64 (0))) fun t53 =>
  vK (loadV (some 2) t53 g) fun t54 =>
  ((oK (builtinL Try.prog .delete [77, 86] [t48, t54] g) fun u g =>
  
  vK (nilCheckP Try.prog x9) fun t57 =>
  vK (fieldAddrL 1 t57) fun t58 =>
  vK (loadV none t58 g) fun t59 =>
  Ok Try.prog 47 [t59, (.int .i64 (0)), (.int .i64 (1))] g fun t60 g =>
  vK (nilCheckP Try.prog x9) fun t61 =>
  vK (fieldAddrL 1 t61) fun t62 =>
  gK (storeV 1 t62 t60 g) fun g =>
  J29_7 x3 x6 x9 g  K) ∧ True)) (
  J29_7 x3 x6 x9 g  K)) (
  J29_4 x3 x6 x9 g  K)
abbrev kj29_6  (K : LV → LHeap → Prop) : LSt → Prop := fun st => J29_6 (st.tm 0) (st.tm 3) (st.tm 6) (st.tm 9) (st.tm 34) st.g  K
theorem J29_6_ok  (K : LV → LHeap → Prop) (tm : Nat → LV) (g : LHeap) (h : J29_6 (tm 0) (tm 3) (tm 6) (tm 9) (tm 34) g  K) : codeL Try.prog (Ok Try.prog) (nd29 [1, 1, 1, 1, 0, 1, 1]) ⟨tm, g⟩ (thenL (kj29_4  K) (en29 K)) := by
  refine cond_i (a := nd29 [1, 1, 1, 1, 0, 1, 1, 0]) (b := nd29 [1, 1, 1, 1, 0, 1, 1, 1]) (by kernel_rfl) h (fun h => ?_) (fun h => ?_)
  refine seq_i (a := nd29 [1, 1, 1, 1, 0, 1, 1, 0, 0]) (b := nd29 [1, 1, 1, 1, 0, 1, 1, 0, 1]) (k' := kj29_7  K) (by kernel_rfl) (fun st h => J29_7_ok  K st.tm st.g h) ?_
  try unfold J29_6 at h
  unfold kj29_7
  generalize @J29_7 = Q29_7 at h ⊢
  unfold kj29_4
  generalize @J29_4 = Q29_4 at h ⊢
  refine code2_sound ok_mono _ _ _ ?_
  refine kmp ?_ h
  generalize Ok Try.prog = C
  try unfold en29
  as_aux_lemma => kernel_rfl
  try unfold J29_6 at h
  unfold kj29_4
  generalize @J29_4 = Q29_4 at h ⊢
  refine code2_sound ok_mono _ _ _ ?_
  refine kmp ?_ h
  generalize Ok Try.prog = C
  try unfold en29
  as_aux_lemma => kernel_rfl

noncomputable def J29_5 (x0 x3 x6 x9 x11 : LV) (g : LHeap)  (K : LV → LHeap → Prop) : Prop :=
  vK (unL .not x11) fun t34 =>
  J29_6 x0 x3 x6 x9 t34 g  K
abbrev kj29_5  (K : LV → LHeap → Prop) : LSt → Prop := fun st => J29_5 (st.tm 0) (st.tm 3) (st.tm 6) (st.tm 9) (st.tm 11) st.g  K
theorem J29_5_ok  (K : LV → LHeap → Prop) (tm : Nat → LV) (g : LHeap) (h : J29_5 (tm 0) (tm 3) (tm 6) (tm 9) (tm 11) g  K) : codeL Try.prog (Ok Try.prog) (nd29 [1, 1, 1, 1, 0, 1]) ⟨tm, g⟩ (thenL (kj29_4  K) (en29 K)) := by
  refine seq_i (a := nd29 [1, 1, 1, 1, 0, 1, 0]) (b := nd29 [1, 1, 1, 1, 0, 1, 1]) (k' := kj29_6  K) (by kernel_rfl) (fun st h => J29_6_ok  K st.tm st.g h) ?_
  try unfold J29_5 at h
  unfold kj29_6
  generalize @J29_6 = Q29_6 at h ⊢
  unfold kj29_4
  generalize @J29_4 = Q29_4 at h ⊢
  refine code2_sound ok_mono _ _ _ ?_
  refine kmp ?_ h
  generalize Ok Try.prog = C
  try unfold en29
  as_aux_lemma => kernel_rfl

noncomputable def J29_3 (x0 x3 x6 x9 : LV) (g : LHeap)  (K : LV → LHeap → Prop) : Prop :=
  vK (nilCheckP Try.prog x9) fun t26 =>
  vK (fieldAddrL 0 t26) fun t27 =>
  vK (loadV none t27 g) fun t28 =>
  vK (loadV (some 2) x6 g) fun t29 =>
  vK (lookupL Try.prog 77 t28 t29 true g) fun t30 =>
  vK (extractL t30 0) fun t31 =>
  vK (extractL t30 1) fun t32 =>
  J29_5 x0 x3 x6 x9 t32 g  K
abbrev kj29_3  (K : LV → LHeap → Prop) : LSt → Prop := fun st => J29_3 (st.tm 0) (st.tm 3) (st.tm 6) (st.tm 9) st.g  K
theorem J29_3_ok  (K : LV → LHeap → Prop) (tm : Nat → LV) (g : LHeap) (h : J29_3 (tm 0) (tm 3) (tm 6) (tm 9) g  K) : codeL Try.prog (Ok Try.prog) (nd29 [1, 1, 1, 1]) ⟨tm, g⟩ (en29 K) := by
  refine seq_i (a := nd29 [1, 1, 1, 1, 0]) (b := nd29 [1, 1, 1, 1, 1]) (k' := kj29_4  K) (by kernel_rfl) (fun st h => J29_4_ok  K st.tm st.g h) ?_
  refine seq_i (a := nd29 [1, 1, 1, 1, 0, 0]) (b := nd29 [1, 1, 1, 1, 0, 1]) (k' := kj29_5  K) (by kernel_rfl) (fun st h => J29_5_ok  K st.tm st.g h) ?_
  try unfold J29_3 at h
  unfold kj29_5
  generalize @J29_5 = Q29_5 at h ⊢
  unfold kj29_4
  generalize @J29_4 = Q29_4 at h ⊢
  refine code2_sound ok_mono _ _ _ ?_
  refine kmp ?_ h
  generalize Ok Try.prog = C
  try unfold en29
  as_aux_lemma => kernel_rfl

noncomputable def J29_2 (x0 x1 x3 x6 : LV) (g : LHeap)  (K : LV → LHeap → Prop) : Prop :=
  vK (nilCheckP Try.prog x0) fun t19 =>
  vK (fieldAddrL 1 t19) fun t20 =>
  vK (loadV none t20 g) fun t21 =>
  vK (ixAddrL none 2 t21 x1) fun t23 =>
  J29_3 x0 x3 x6 t23 g  K
abbrev kj29_2  (K : LV → LHeap → Prop) : LSt → Prop := fun st => J29_2 (st.tm 0) (st.tm 1) (st.tm 3) (st.tm 6) st.g  K
theorem J29_2_ok  (K : LV → LHeap → Prop) (tm : Nat → LV) (g : LHeap) (h : J29_2 (tm 0) (tm 1) (tm 3) (tm 6) g  K) : codeL Try.prog (Ok Try.prog) (nd29 [1, 1, 1]) ⟨tm, g⟩ (en29 K) := by
  refine seq_i (a := nd29 [1, 1, 1, 0]) (b := nd29 [1, 1, 1, 1]) (k' := kj29_3  K) (by kernel_rfl) (fun st h => J29_3_ok  K st.tm st.g h) ?_
  try unfold J29_2 at h
  unfold kj29_3
  generalize @J29_3 = Q29_3 at h ⊢
  refine code2_sound ok_mono _ _ _ ?_
  refine kmp ?_ h
  generalize Ok Try.prog = C
  try unfold en29
  as_aux_lemma => kernel_rfl

noncomputable def J29_1 (x0 x1 x3 x6 : LV) (g : LHeap)  (K : LV → LHeap → Prop) : Prop :=
  Ok Try.prog 43 [x0, x1] g fun t16 g =>
  vK (unL .not t16) fun t17 =>
  ifB t17 (
  K (.int .i64 (1)) g) (
  J29_2 x0 x1 x3 x6 g  K)
abbrev kj29_1  (K : LV → LHeap → Prop) : LSt → Prop := fun st => J29_1 (st.tm 0) (st.tm 1) (st.tm 3) (st.tm 6) st.g  K
theorem J29_1_ok  (K : LV → LHeap → Prop) (tm : Nat → LV) (g : LHeap) (h : J29_1 (tm 0) (tm 1) (tm 3) (tm 6) g  K) : codeL Try.prog (Ok Try.prog) (nd29 [1, 1]) ⟨tm, g⟩ (en29 K) := by
  refine seq_i (a := nd29 [1, 1, 0]) (b := nd29 [1, 1, 1]) (k' := kj29_2  K) (by kernel_rfl) (fun st h => J29_2_ok  K st.tm st.g h) ?_
  try unfold J29_1 at h
  unfold kj29_2
  generalize @J29_2 = Q29_2 at h ⊢
  refine code2_sound ok_mono _ _ _ ?_
  refine kmp ?_ h
  generalize Ok Try.prog = C
  try unfold en29
  as_aux_lemma => kernel_rfl

noncomputable def J29_0 (x0 x1 x3 x6 : LV) (g : LHeap)  (K : LV → LHeap → Prop) : Prop :=
  vK (binL Try.prog .eql 31 true x0 .nilp) fun t13 =>
  ifB t13 (
  K (.int .i64 (6)) g) (
  J29_1 x0 x1 x3 x6 g  K)
abbrev kj29_0  (K : LV → LHeap → Prop) : LSt → Prop := fun st => J29_0 (st.tm 0) (st.tm 1) (st.tm 3) (st.tm 6) st.g  K
theorem J29_0_ok  (K : LV → LHeap → Prop) (tm : Nat → LV) (g : LHeap) (h : J29_0 (tm 0) (tm 1) (tm 3) (tm 6) g  K) : codeL Try.prog (Ok Try.prog) (nd29 [1]) ⟨tm, g⟩ (en29 K) := by
  refine seq_i (a := nd29 [1, 0]) (b := nd29 [1, 1]) (k' := kj29_1  K) (by kernel_rfl) (fun st h => J29_1_ok  K st.tm st.g h) ?_
  try unfold J29_0 at h
  unfold kj29_1
  generalize @J29_1 = Q29_1 at h ⊢
  refine code2_sound ok_mono _ _ _ ?_
  refine kmp ?_ h
  generalize Ok Try.prog = C
  try unfold en29
  as_aux_lemma => kernel_rfl

noncomputable def F29 (x0 x1 x2 x3 : LV) (g : LHeap) (K : LV → LHeap → Prop) : Prop :=
  oK (newL x2 g) fun t6 g =>
  J29_0 x0 x1 x3 t6 g  K
theorem ok29 {x0 x1 x2 x3 : LV} {g : LHeap} {K : LV → LHeap → Prop} (h : g.Wf → (∀ v ∈ ([x0, x1, x2, x3] : List LV), ∀ b ∈ v.objs, b < g.next) → F29 x0 x1 x2 x3 g K) : Ok Try.prog 29 [x0, x1, x2, x3] g K := by
  refine ok_fw Try.mixed Try.func29 (by kernel_rfl) (by kernel_rfl) (c := nd29 []) (by kernel_rfl) fun wf lt => ?_
  rw [← en29_eq]
  replace h := h wf lt
  generalize hs : startL _ = tm
  replace h : F29 (tm 0) (tm 1) (tm 2) (tm 3) g K := by rw [← hs]; exact h
  refine seq_i (a := nd29 [0]) (b := nd29 [1]) (k' := kj29_0  K) (by kernel_rfl) (fun st h => J29_0_ok  K st.tm st.g h) ?_
  try unfold F29 at h
  unfold kj29_0
  generalize @J29_0 = Q29_0 at h ⊢
  refine code2_sound ok_mono _ _ _ ?_
  refine kmp ?_ h
  generalize Ok Try.prog = C
  try unfold en29
  as_aux_lemma => kernel_rfl

/-! (*parapet/frame.Frames).made (12 slots) -/
noncomputable def en37 (K : LV → LHeap → Prop) : LEx → LSt → Prop := fun e st => match e with
  | .exit _ => False
  | _ => K (st.tm 2) st.g
theorem en37_eq (K : LV → LHeap → Prop) : en37 K = endL Try.prog Try.f37 K := by
  funext e st
  cases e <;> kernel_rfl
noncomputable def nd37 (p : List Nat) : Code := subC p (bodyC Try.prog 37)
noncomputable def F37 (x0 : LV) (g : LHeap) (K : LV → LHeap → Prop) : Prop :=
  vK (binL Try.prog .neq 30 true x0 .nilp) fun t4 =>
  gd t4 true g (fun K => K x0 g) fun t6 g =>
  gd t4 true g (fun K => vK (nilCheckP Try.prog t6) fun v => K v g) fun t7 g =>
  gd t4 true g (fun K => vK (fieldAddrL 0 t7) fun v => K v g) fun t8 g =>
  gd t4 true g (fun K => vK (loadV none t8 g) fun v => K v g) fun t9 g =>
  gd t4 true g (fun K => vK (binL Try.prog .neq 29 true t9 .nilp) fun v => K v g) fun t10 g =>
  vK (pickL t4 t10 (.bool false)) fun t11 =>
  K t11 g
theorem ok37 {x0 : LV} {g : LHeap} {K : LV → LHeap → Prop} (h : g.Wf → (∀ v ∈ ([x0] : List LV), ∀ b ∈ v.objs, b < g.next) → F37 x0 g K) : Ok Try.prog 37 [x0] g K := by
  refine ok_fw Try.mixed Try.func37 (by kernel_rfl) (by kernel_rfl) (c := nd37 []) (by kernel_rfl) fun wf lt => ?_
  rw [← en37_eq]
  replace h := h wf lt
  generalize hs : startL _ = tm
  replace h : F37 (tm 0) g K := by rw [← hs]; exact h
  try unfold F37 at h
  refine code2_sound ok_mono _ _ _ ?_
  refine kmp ?_ h
  generalize Ok Try.prog = C
  try unfold en37
  as_aux_lemma => kernel_rfl

/-! (*parapet/frame.Frames).is (15 slots) -/
noncomputable def en38 (K : LV → LHeap → Prop) : LEx → LSt → Prop := fun e st => match e with
  | .exit _ => False
  | _ => K (st.tm 4) st.g
theorem en38_eq (K : LV → LHeap → Prop) : en38 K = endL Try.prog Try.f38 K := by
  funext e st
  cases e <;> kernel_rfl
noncomputable def nd38 (p : List Nat) : Code := subC p (bodyC Try.prog 38)
noncomputable def F38 (x0 x1 : LV) (g : LHeap) (K : LV → LHeap → Prop) : Prop :=
  vK (binL Try.prog .geq 3 true x1 (.int .i64 (0))) fun t6 =>
  gd t6 true g (fun K => K x1 g) fun t8 g =>
  gd t6 true g (fun K => K x0 g) fun t9 g =>
  gd t6 true g (fun K => vK (nilCheckP Try.prog t9) fun v => K v g) fun t10 g =>
  gd t6 true g (fun K => vK (fieldAddrL 2 t10) fun v => K v g) fun t11 g =>
  gd t6 true g (fun K => vK (loadV none t11 g) fun v => K v g) fun t12 g =>
  gd t6 true g (fun K => vK (binL Try.prog .lss 3 false t8 t12) fun v => K v g) fun t13 g =>
  vK (pickL t6 t13 (.bool false)) fun t14 =>
  K t14 g
theorem ok38 {x0 x1 : LV} {g : LHeap} {K : LV → LHeap → Prop} (h : g.Wf → (∀ v ∈ ([x0, x1] : List LV), ∀ b ∈ v.objs, b < g.next) → F38 x0 x1 g K) : Ok Try.prog 38 [x0, x1] g K := by
  refine ok_fw Try.mixed Try.func38 (by kernel_rfl) (by kernel_rfl) (c := nd38 []) (by kernel_rfl) fun wf lt => ?_
  rw [← en38_eq]
  replace h := h wf lt
  generalize hs : startL _ = tm
  replace h : F38 (tm 0) (tm 1) g K := by rw [← hs]; exact h
  try unfold F38 at h
  refine code2_sound ok_mono _ _ _ ?_
  refine kmp ?_ h
  generalize Ok Try.prog = C
  try unfold en38
  as_aux_lemma => kernel_rfl

/-! (*parapet/frame.Frames).Free (27 slots) -/
noncomputable def en39 (K : LV → LHeap → Prop) : LEx → LSt → Prop := fun e st => match e with
  | .exit _ => False
  | _ => K (st.tm 2) st.g
theorem en39_eq (K : LV → LHeap → Prop) : en39 K = endL Try.prog Try.f39 K := by
  funext e st
  cases e <;> kernel_rfl
noncomputable def nd39 (p : List Nat) : Code := subC p (bodyC Try.prog 39)
noncomputable def J39_3 (x3 : LV) (g : LHeap)  (K : LV → LHeap → Prop) : Prop :=
  K x3 g
abbrev kj39_3  (K : LV → LHeap → Prop) : LSt → Prop := fun st => J39_3 (st.tm 3) st.g  K
theorem J39_3_ok  (K : LV → LHeap → Prop) (tm : Nat → LV) (g : LHeap) (h : J39_3 (tm 3) g  K) : codeL Try.prog (Ok Try.prog) (nd39 [1, 1, 1, 1]) ⟨tm, g⟩ (en39 K) := by
  try unfold J39_3 at h
  refine code2_sound ok_mono _ _ _ ?_
  refine kmp ?_ h
  generalize Ok Try.prog = C
  try unfold en39
  as_aux_lemma => kernel_rfl

noncomputable def L39_5 (x17 : LV) (x3 x18 : LV) (g : LHeap) (N5 : LV × LV → LHeap → Prop) (K : LV → LHeap → Prop) : Prop :=
  vK (binL Try.prog .lss 3 true x18 (.int .i64 (8))) fun t19 =>
  ifB t19 (
  vK (indexT Try.prog 70 x17 x18) fun t20 =>
  oK (builtinL Try.prog .len [22] [t20] g) fun t23 g =>
  vK (binL Try.prog .add 3 false x3 t23) fun t24 =>
  vK (binL Try.prog .add 3 true x18 (.int .i64 (1))) fun t25 =>
  N5 (t24, t25) g) (
  J39_3 x3 g  K)
theorem L39_5_ok (R5 : LV → LV × LV → LHeap → Prop) (K : LV → LHeap → Prop) (tm : Nat → LV) (g : LHeap) (h : L39_5 (tm 17) (tm 3) (tm 18) g (fun s g => R5 (tm 17) s g) K) : codeL Try.prog (Ok Try.prog) (nd39 [1, 1, 1, 0, 1, 0, 0]) ⟨tm, g⟩ (roundK (fun tm : Nat → LV => tm 17) (fun tm : Nat → LV => (tm 3, tm 18)) R5 (exitL 0 (thenL (kj39_3  K) (en39 K)))) := by
  try unfold L39_5 at h
  unfold kj39_3
  generalize @J39_3 = Q39_3 at h ⊢
  refine code2_sound ok_mono _ _ _ ?_
  refine kmp ?_ h
  generalize Ok Try.prog = C
  try unfold en39
  as_aux_lemma => kernel_rfl

noncomputable def J39_4 (x3 x17 x18 : LV) (g : LHeap)  (K : LV → LHeap → Prop) : Prop :=
  loopP (fun s g N => L39_5 x17 s.1 s.2 g N  K) (x3, x18) g
abbrev kj39_4  (K : LV → LHeap → Prop) : LSt → Prop := fun st => J39_4 (st.tm 3) (st.tm 17) (st.tm 18) st.g  K
theorem J39_4_ok  (K : LV → LHeap → Prop) (tm : Nat → LV) (g : LHeap) (h : J39_4 (tm 3) (tm 17) (tm 18) g  K) : codeL Try.prog (Ok Try.prog) (nd39 [1, 1, 1, 0, 1]) ⟨tm, g⟩ (thenL (kj39_3  K) (en39 K)) := by
  refine block_i (b := nd39 [1, 1, 1, 0, 1, 0]) (i := 0) (by kernel_rfl) ?_
  exact loop_glue (b := nd39 [1, 1, 1, 0, 1, 0, 0]) (by kernel_rfl) (fun tm : Nat → LV => tm 17) (fun tm : Nat → LV => (tm 3, tm 18)) (fun a s g N => L39_5 a s.1 s.2 g N  K) (fun tm g R h => L39_5_ok R  K tm g h) tm g h

noncomputable def J39_2 (x0 x3 : LV) (g : LHeap)  (K : LV → LHeap → Prop) : Prop :=
  vK (nilCheckP Try.prog x0) fun t15 =>
  vK (fieldAddrL 4 t15) fun t16 =>
  vK (loadV (some 8) t16 g) fun t17 =>
  J39_4 x3 t17 (.int .i64 (0)) g  K
abbrev kj39_2  (K : LV → LHeap → Prop) : LSt → Prop := fun st => J39_2 (st.tm 0) (st.tm 3) st.g  K
theorem J39_2_ok  (K : LV → LHeap → Prop) (tm : Nat → LV) (g : LHeap) (h : J39_2 (tm 0) (tm 3) g  K) : codeL Try.prog (Ok Try.prog) (nd39 [1, 1, 1]) ⟨tm, g⟩ (en39 K) := by
  refine seq_i (a := nd39 [1, 1, 1, 0]) (b := nd39 [1, 1, 1, 1]) (k' := kj39_3  K) (by kernel_rfl) (fun st h => J39_3_ok  K st.tm st.g h) ?_
  refine seq_i (a := nd39 [1, 1, 1, 0, 0]) (b := nd39 [1, 1, 1, 0, 1]) (k' := kj39_4  K) (by kernel_rfl) (fun st h => J39_4_ok  K st.tm st.g h) ?_
  try unfold J39_2 at h
  unfold kj39_4
  generalize @J39_4 = Q39_4 at h ⊢
  unfold kj39_3
  generalize @J39_3 = Q39_3 at h ⊢
  refine code2_sound ok_mono _ _ _ ?_
  refine kmp ?_ h
  generalize Ok Try.prog = C
  try unfold en39
  as_aux_lemma => kernel_rfl

noncomputable def J39_1 (x0 : LV) (g : LHeap)  (K : LV → LHeap → Prop) : Prop :=
  vK (nilCheckP Try.prog x0) fun t10 =>
  vK (fieldAddrL 12 t10) fun t11 =>
  vK (loadV none t11 g) fun t12 =>
  oK (builtinL Try.prog .len [22] [t12] g) fun t13 g =>
  J39_2 x0 t13 g  K
abbrev kj39_1  (K : LV → LHeap → Prop) : LSt → Prop := fun st => J39_1 (st.tm 0) st.g  K
theorem J39_1_ok  (K : LV → LHeap → Prop) (tm : Nat → LV) (g : LHeap) (h : J39_1 (tm 0) g  K) : codeL Try.prog (Ok Try.prog) (nd39 [1, 1]) ⟨tm, g⟩ (en39 K) := by
  refine seq_i (a := nd39 [1, 1, 0]) (b := nd39 [1, 1, 1]) (k' := kj39_2  K) (by kernel_rfl) (fun st h => J39_2_ok  K st.tm st.g h) ?_
  try unfold J39_1 at h
  unfold kj39_2
  generalize @J39_2 = Q39_2 at h ⊢
  refine code2_sound ok_mono _ _ _ ?_
  refine kmp ?_ h
  generalize Ok Try.prog = C
  try unfold en39
  as_aux_lemma => kernel_rfl

noncomputable def J39_0 (x0 : LV) (g : LHeap)  (K : LV → LHeap → Prop) : Prop :=
  Ok Try.prog 37 [x0] g fun t7 g =>
  vK (unL .not t7) fun t8 =>
  ifB t8 (
  K (.int .i64 (0)) g) (
  J39_1 x0 g  K)
abbrev kj39_0  (K : LV → LHeap → Prop) : LSt → Prop := fun st => J39_0 (st.tm 0) st.g  K
theorem J39_0_ok  (K : LV → LHeap → Prop) (tm : Nat → LV) (g : LHeap) (h : J39_0 (tm 0) g  K) : codeL Try.prog (Ok Try.prog) (nd39 [1]) ⟨tm, g⟩ (en39 K) := by
  refine seq_i (a := nd39 [1, 0]) (b := nd39 [1, 1]) (k' := kj39_1  K) (by kernel_rfl) (fun st h => J39_1_ok  K st.tm st.g h) ?_
  try unfold J39_0 at h
  unfold kj39_1
  generalize @J39_1 = Q39_1 at h ⊢
  refine code2_sound ok_mono _ _ _ ?_
  refine kmp ?_ h
  generalize Ok Try.prog = C
  try unfold en39
  as_aux_lemma => kernel_rfl

noncomputable def F39 (x0 : LV) (g : LHeap) (K : LV → LHeap → Prop) : Prop :=
  J39_0 x0 g  K
theorem ok39 {x0 : LV} {g : LHeap} {K : LV → LHeap → Prop} (h : g.Wf → (∀ v ∈ ([x0] : List LV), ∀ b ∈ v.objs, b < g.next) → F39 x0 g K) : Ok Try.prog 39 [x0] g K := by
  refine ok_fw Try.mixed Try.func39 (by kernel_rfl) (by kernel_rfl) (c := nd39 []) (by kernel_rfl) fun wf lt => ?_
  rw [← en39_eq]
  replace h := h wf lt
  generalize hs : startL _ = tm
  replace h : F39 (tm 0) g K := by rw [← hs]; exact h
  refine seq_i (a := nd39 [0]) (b := nd39 [1]) (k' := kj39_0  K) (by kernel_rfl) (fun st h => J39_0_ok  K st.tm st.g h) ?_
  try unfold F39 at h
  unfold kj39_0
  generalize @J39_0 = Q39_0 at h ⊢
  refine code2_sound ok_mono _ _ _ ?_
  refine kmp ?_ h
  generalize Ok Try.prog = C
  try unfold en39
  as_aux_lemma => kernel_rfl

/-! (*parapet/frame.Frames).fill (111 slots) -/
noncomputable def en40 (K : LV → LHeap → Prop) : LEx → LSt → Prop := fun e st => match e with
  | .exit _ => False
  | _ => K (.tuple []) st.g
theorem en40_eq (K : LV → LHeap → Prop) : en40 K = endL Try.prog Try.f40 K := by
  funext e st
  cases e <;> kernel_rfl
noncomputable def nd40 (p : List Nat) : Code := subC p (bodyC Try.prog 40)
noncomputable def J40_2 (x0 x1 x5 : LV) (g : LHeap)  (K : LV → LHeap → Prop) : Prop :=
  vK (nilCheckP Try.prog x0) fun t70 =>
  vK (fieldAddrL 4 t70) fun t71 =>
  vK (ixAddrL (some 8) 1 t71 x5) fun t72 =>
  vK (loadV none t72 g) fun t73 =>
  oK (builtinL Try.prog .len [22] [t73] g) fun t74 g =>
  vK (binL Try.prog .add 3 true t74 (.int .i64 (1))) fun t75 =>
  vK (binL Try.prog .quo 3 true t75 (.int .i64 (2))) fun t76 =>
  vK (nilCheckP Try.prog x0) fun t81 =>
  vK (fieldAddrL 4 t81) fun t82 =>
  vK (ixAddrL (some 8) 1 t82 x1) fun t83 =>
  vK (loadV none t83 g) fun t84 =>
  vK (nilCheckP Try.prog x0) fun t87 =>
  vK (fieldAddrL 4 t87) fun t88 =>
  vK (ixAddrL (some 8) 1 t88 x5) fun t89 =>
  vK (loadV none t89 g) fun t90 =>
  vK (cutT Try.prog 22 t90 none (some t76) none (limL t90 g)) fun t92 =>
  vK (nilCheckP Try.prog x0) fun t94 =>
  vK (fieldAddrL 4 t94) fun t95 =>
  ((oK (builtinL Try.prog .append [22, 22] [t84, t92] g) fun t93 g =>
  
  vK (ixAddrL (some 8) 1 t95 x1) fun t96 =>
  ((gK (storeV 1 t96 t93 g) fun g =>
  
  vK (nilCheckP Try.prog x0) fun t101 =>
  vK (fieldAddrL 4 t101) fun t102 =>
  vK (ixAddrL (some 8) 1 t102 x5) fun t103 =>
  vK (loadV none t103 g) fun t104 =>
  vK (cutT Try.prog 22 t104 (some t76) none none (limL t104 g)) fun t106 =>
  vK (nilCheckP Try.prog x0) fun t108 =>
  vK (fieldAddrL 4 t108) fun t109 =>
  ((Ok Try.prog 59 [t106] g fun t107 g =>
  
  vK (ixAddrL (some 8) 1 t109 x5) fun t110 =>
  ((gK (storeV 1 t110 t107 g) fun g =>
  
  K (.tuple []) g) ∧ True)) ∧ True)) ∧ True)) ∧ True)
abbrev kj40_2  (K : LV → LHeap → Prop) : LSt → Prop := fun st => J40_2 (st.tm 0) (st.tm 1) (st.tm 5) st.g  K
theorem J40_2_ok  (K : LV → LHeap → Prop) (tm : Nat → LV) (g : LHeap) (h : J40_2 (tm 0) (tm 1) (tm 5) g  K) : codeL Try.prog (Ok Try.prog) (nd40 [1, 1, 1]) ⟨tm, g⟩ (en40 K) := by
  try unfold J40_2 at h
  refine code3_sound ok_mono (pl := [(12, (.lt 0 false (.lt 1 false (.lt 2 false (.lt 3 false (.lt 4 false (.lt 5 false (.lt 6 false (.lt 7 false (.lt 8 false (.lt 9 false (.lt 10 false (.lt 11 false (.lt 12 false (.lt 13 false (.lt 14 false (.lt 15 false (.lt 17 false (.lt 18 false (.hv 16 (.lt 19 false (.hv 20 .nil .nil)) .nil)))))))))))))))))))), (13, (.lt 0 false (.lt 1 false (.lt 2 false (.lt 3 false (.lt 4 false (.lt 5 false (.lt 6 false (.lt 7 false (.lt 8 false (.lt 9 false (.lt 11 false (.lt 12 false (.hv 10 (.lt 13 false (.hv 14 .nil .nil)) .nil))))))))))))))]) _ _ _ (by kernel_rfl) ?_
  refine kmp ?_ h
  generalize Ok Try.prog = C
  try unfold en40
  as_aux_lemma => kernel_rfl

noncomputable def L40_4 (x0 x1 x47 : LV) (x5 x48 : LV) (g : LHeap) (N4 : LV × LV → LHeap → Prop) (K : LV → LHeap → Prop) : Prop :=
  vK (binL Try.prog .lss 3 false x48 x47) fun t49 =>
  ifB t49 (
  vK (nilCheckP Try.prog x0) fun t53 =>
  vK (fieldAddrL 4 t53) fun t54 =>
  vK (ixAddrL (some 8) 1 t54 x48) fun t55 =>
  vK (loadV none t55 g) fun t56 =>
  vK (lenL Try.prog 22 t56 g) fun t57 =>
  vK (nilCheckP Try.prog x0) fun t60 =>
  vK (fieldAddrL 4 t60) fun t61 =>
  vK (ixAddrL (some 8) 1 t61 x5) fun t62 =>
  vK (loadV none t62 g) fun t63 =>
  vK (lenL Try.prog 22 t63 g) fun t64 =>
  vK (binL Try.prog .gtr 3 false t57 t64) fun t65 =>
  ifB t65 (
  vK (binL Try.prog .add 3 true x48 (.int .i64 (1))) fun t67 =>
  N4 (x48, t67) g) (
  vK (binL Try.prog .add 3 true x48 (.int .i64 (1))) fun t67 =>
  N4 (x5, t67) g)) (
  J40_2 x0 x1 x5 g  K)
theorem L40_4_ok (R4 : LV × LV × LV → LV × LV → LHeap → Prop) (K : LV → LHeap → Prop) (tm : Nat → LV) (g : LHeap) (h : L40_4 (tm 0) (tm 1) (tm 47) (tm 5) (tm 48) g (fun s g => R4 ((tm 0), (tm 1), (tm 47)) s g) K) : codeL Try.prog (Ok Try.prog) (nd40 [1, 1, 0, 1, 0, 0]) ⟨tm, g⟩ (roundK (fun tm : Nat → LV => (tm 0, tm 1, tm 47)) (fun tm : Nat → LV => (tm 5, tm 48)) R4 (exitL 0 (thenL (kj40_2  K) (en40 K)))) := by
  try unfold L40_4 at h
  unfold kj40_2
  generalize @J40_2 = Q40_2 at h ⊢
  refine code3_sound ok_mono (pl := [(8, (.lt 0 false (.lt 1 false (.lt 2 false (.lt 3 false (.lt 4 false (.lt 5 false (.lt 6 false (.lt 7 false (.lt 8 false (.lt 9 false (.lt 10 false (.lt 11 false (.lt 12 false (.lt 13 false (.lt 14 false .nil))))))))))))))))]) _ _ _ (by kernel_rfl) ?_
  refine kmp ?_ h
  generalize Ok Try.prog = C
  try unfold en40
  as_aux_lemma => kernel_rfl

noncomputable def J40_3 (x0 x1 x5 x47 x48 : LV) (g : LHeap)  (K : LV → LHeap → Prop) : Prop :=
  loopP (fun s g N => L40_4 x0 x1 x47 s.1 s.2 g N  K) (x5, x48) g
abbrev kj40_3  (K : LV → LHeap → Prop) : LSt → Prop := fun st => J40_3 (st.tm 0) (st.tm 1) (st.tm 5) (st.tm 47) (st.tm 48) st.g  K
theorem J40_3_ok  (K : LV → LHeap → Prop) (tm : Nat → LV) (g : LHeap) (h : J40_3 (tm 0) (tm 1) (tm 5) (tm 47) (tm 48) g  K) : codeL Try.prog (Ok Try.prog) (nd40 [1, 1, 0, 1]) ⟨tm, g⟩ (thenL (kj40_2  K) (en40 K)) := by
  refine block_i (b := nd40 [1, 1, 0, 1, 0]) (i := 0) (by kernel_rfl) ?_
  exact loop_glue (b := nd40 [1, 1, 0, 1, 0, 0]) (by kernel_rfl) (fun tm : Nat → LV => (tm 0, tm 1, tm 47)) (fun tm : Nat → LV => (tm 5, tm 48)) (fun a s g N => L40_4 a.1 a.2.1 a.2.2 s.1 s.2 g N  K) (fun tm g R h => L40_4_ok R  K tm g h) tm g h

noncomputable def J40_1 (x0 x1 x5 : LV) (g : LHeap)  (K : LV → LHeap → Prop) : Prop :=
  vK (nilCheckP Try.prog x0) fun t45 =>
  vK (fieldAddrL 2 t45) fun t46 =>
  vK (loadV none t46 g) fun t47 =>
  J40_3 x0 x1 x5 t47 (.int .i64 (0)) g  K
abbrev kj40_1  (K : LV → LHeap → Prop) : LSt → Prop := fun st => J40_1 (st.tm 0) (st.tm 1) (st.tm 5) st.g  K
theorem J40_1_ok  (K : LV → LHeap → Prop) (tm : Nat → LV) (g : LHeap) (h : J40_1 (tm 0) (tm 1) (tm 5) g  K) : codeL Try.prog (Ok Try.prog) (nd40 [1, 1]) ⟨tm, g⟩ (en40 K) := by
  refine seq_i (a := nd40 [1, 1, 0]) (b := nd40 [1, 1, 1]) (k' := kj40_2  K) (by kernel_rfl) (fun st h => J40_2_ok  K st.tm st.g h) ?_
  refine seq_i (a := nd40 [1, 1, 0, 0]) (b := nd40 [1, 1, 0, 1]) (k' := kj40_3  K) (by kernel_rfl) (fun st h => J40_3_ok  K st.tm st.g h) ?_
  try unfold J40_1 at h
  unfold kj40_3
  generalize @J40_3 = Q40_3 at h ⊢
  unfold kj40_2
  generalize @J40_2 = Q40_2 at h ⊢
  refine code2_sound ok_mono _ _ _ ?_
  refine kmp ?_ h
  generalize Ok Try.prog = C
  try unfold en40
  as_aux_lemma => kernel_rfl

noncomputable def J40_0 (x0 x1 : LV) (g : LHeap)  (K : LV → LHeap → Prop) : Prop :=
  J40_1 x0 x1 (.int .i64 (0)) g  K
abbrev kj40_0  (K : LV → LHeap → Prop) : LSt → Prop := fun st => J40_0 (st.tm 0) (st.tm 1) st.g  K
theorem J40_0_ok  (K : LV → LHeap → Prop) (tm : Nat → LV) (g : LHeap) (h : J40_0 (tm 0) (tm 1) g  K) : codeL Try.prog (Ok Try.prog) (nd40 [1]) ⟨tm, g⟩ (en40 K) := by
  refine seq_i (a := nd40 [1, 0]) (b := nd40 [1, 1]) (k' := kj40_1  K) (by kernel_rfl) (fun st h => J40_1_ok  K st.tm st.g h) ?_
  try unfold J40_0 at h
  unfold kj40_1
  generalize @J40_1 = Q40_1 at h ⊢
  refine code2_sound ok_mono _ _ _ ?_
  refine kmp ?_ h
  generalize Ok Try.prog = C
  try unfold en40
  as_aux_lemma => kernel_rfl

noncomputable def F40 (x0 x1 : LV) (g : LHeap) (K : LV → LHeap → Prop) : Prop :=
  vK (nilCheckP Try.prog x0) fun t9 =>
  vK (fieldAddrL 12 t9) fun t10 =>
  vK (loadV none t10 g) fun t11 =>
  oK (builtinL Try.prog .len [22] [t11] g) fun t12 g =>
  oK (builtinL Try.prog .min [3, 3] [t12, (.int .i64 (8))] g) fun t13 g =>
  vK (binL Try.prog .gtr 3 true t13 (.int .i64 (0))) fun t15 =>
  ifB t15 (
  vK (nilCheckP Try.prog x0) fun t20 =>
  vK (fieldAddrL 4 t20) fun t21 =>
  vK (ixAddrL (some 8) 1 t21 x1) fun t22 =>
  vK (loadV none t22 g) fun t23 =>
  vK (nilCheckP Try.prog x0) fun t25 =>
  vK (fieldAddrL 12 t25) fun t26 =>
  vK (loadV none t26 g) fun t27 =>
  vK (cutT Try.prog 22 t27 none (some t13) none (limL t27 g)) fun t29 =>
  vK (nilCheckP Try.prog x0) fun t31 =>
  vK (fieldAddrL 4 t31) fun t32 =>
  ((oK (builtinL Try.prog .append [22, 22] [t23, t29] g) fun t30 g =>
  
  vK (ixAddrL (some 8) 1 t32 x1) fun t33 =>
  ((gK (storeV 1 t33 t30 g) fun g =>
  
  vK (nilCheckP Try.prog x0) fun t36 =>
  vK (fieldAddrL 12 t36) fun t37 =>
  vK (loadV none t37 g) fun t38 =>
  vK (cutT Try.prog 22 t38 (some t13) none none (limL t38 g)) fun t40 =>
  Ok Try.prog 59 [t40] g fun t41 g =>
  vK (nilCheckP Try.prog x0) fun t42 =>
  vK (fieldAddrL 12 t42) fun t43 =>
  gK (storeV 1 t43 t41 g) fun g =>
  K (.tuple []) g) ∧ True)) ∧ True)) (
  J40_0 x0 x1 g  K)
theorem ok40 {x0 x1 : LV} {g : LHeap} {K : LV → LHeap → Prop} (h : g.Wf → (∀ v ∈ ([x0, x1] : List LV), ∀ b ∈ v.objs, b < g.next) → F40 x0 x1 g K) : Ok Try.prog 40 [x0, x1] g K := by
  refine ok_fw Try.mixed Try.func40 (by kernel_rfl) (by kernel_rfl) (c := nd40 []) (by kernel_rfl) fun wf lt => ?_
  rw [← en40_eq]
  replace h := h wf lt
  generalize hs : startL _ = tm
  replace h : F40 (tm 0) (tm 1) g K := by rw [← hs]; exact h
  refine seq_i (a := nd40 [0]) (b := nd40 [1]) (k' := kj40_0  K) (by kernel_rfl) (fun st h => J40_0_ok  K st.tm st.g h) ?_
  try unfold F40 at h
  unfold kj40_0
  generalize @J40_0 = Q40_0 at h ⊢
  refine code3_sound ok_mono (pl := [(2, (.lt 0 false (.lt 1 false (.lt 2 false (.lt 3 false (.lt 4 false (.lt 5 false (.lt 6 false (.lt 7 false (.lt 8 false (.lt 9 false (.lt 10 false (.lt 11 false (.lt 12 false (.lt 13 false (.lt 15 false (.lt 16 false (.hv 14 (.lt 17 false (.hv 18 .nil .nil)) .nil))))))))))))))))))]) _ _ _ (by kernel_rfl) ?_
  refine kmp ?_ h
  generalize Ok Try.prog = C
  try unfold en40
  as_aux_lemma => kernel_rfl

/-! (*parapet/phys.Mem).frame (24 slots) -/
noncomputable def en41 (K : LV → LHeap → Prop) : LEx → LSt → Prop := fun e st => match e with
  | .exit _ => False
  | _ => K (.tuple [(st.tm 4), (st.tm 5)]) st.g
theorem en41_eq (K : LV → LHeap → Prop) : en41 K = endL Try.prog Try.f41 K := by
  funext e st
  cases e <;> kernel_rfl
noncomputable def nd41 (p : List Nat) : Code := subC p (bodyC Try.prog 41)
noncomputable def F41 (x0 x1 : LV) (g : LHeap) (K : LV → LHeap → Prop) : Prop :=
  vK (binL Try.prog .neq 29 true x0 .nilp) fun t7 =>
  gd t7 true g (fun K => K x1 g) fun t9 g =>
  gd t7 true g (fun K => vK (binL Try.prog .lss 3 true t9 (.int .i64 (0))) fun v => K v g) fun t10 g =>
  gd t7 true g (fun K => K t10 g) fun t11 g =>
  gd t11 false g (fun K => K x1 g) fun t12 g =>
  gd t11 false g (fun K => K x0 g) fun t13 g =>
  gd t11 false g (fun K => Ok Try.prog 21 [t13] g K) fun t14 g =>
  gd t11 false g (fun K => vK (binL Try.prog .geq 3 false t12 t14) fun v => K v g) fun t15 g =>
  gd t7 true g (fun K => vK (pickL t11 (.bool true) t15) fun v => K v g) fun t16 g =>
  vK (pickL t7 t16 (.bool false)) fun t17 =>
  ifB t17 (
  K (.tuple [.nils, (.int .i64 (10))]) g) (
  vK (binL Try.prog .mul 3 true x1 (.int .i64 (256))) fun t20 =>
  Ok Try.prog 60 [x0, t20, (.int .i64 (256))] g fun t21 g =>
  vK (extractL t21 0) fun t22 =>
  vK (extractL t21 1) fun t23 =>
  K (.tuple [t22, t23]) g)
theorem ok41 {x0 x1 : LV} {g : LHeap} {K : LV → LHeap → Prop} (h : g.Wf → (∀ v ∈ ([x0, x1] : List LV), ∀ b ∈ v.objs, b < g.next) → F41 x0 x1 g K) : Ok Try.prog 41 [x0, x1] g K := by
  refine ok_fw Try.mixed Try.func41 (by kernel_rfl) (by kernel_rfl) (c := nd41 []) (by kernel_rfl) fun wf lt => ?_
  rw [← en41_eq]
  replace h := h wf lt
  generalize hs : startL _ = tm
  replace h : F41 (tm 0) (tm 1) g K := by rw [← hs]; exact h
  try unfold F41 at h
  refine code2_sound ok_mono _ _ _ ?_
  refine kmp ?_ h
  generalize Ok Try.prog = C
  try unfold en41
  as_aux_lemma => kernel_rfl

/-! (*parapet/tlb.Tlb).is (13 slots) -/
noncomputable def en43 (K : LV → LHeap → Prop) : LEx → LSt → Prop := fun e st => match e with
  | .exit _ => False
  | _ => K (st.tm 4) st.g
theorem en43_eq (K : LV → LHeap → Prop) : en43 K = endL Try.prog Try.f43 K := by
  funext e st
  cases e <;> kernel_rfl
noncomputable def nd43 (p : List Nat) : Code := subC p (bodyC Try.prog 43)
noncomputable def F43 (x0 x1 : LV) (g : LHeap) (K : LV → LHeap → Prop) : Prop :=
  vK (binL Try.prog .geq 3 true x1 (.int .i64 (0))) fun t6 =>
  gd t6 true g (fun K => K x1 g) fun t8 g =>
  gd t6 true g (fun K => K x0 g) fun t9 g =>
  gd t6 true g (fun K => Ok Try.prog 25 [t9] g K) fun t10 g =>
  gd t6 true g (fun K => vK (binL Try.prog .lss 3 false t8 t10) fun v => K v g) fun t11 g =>
  vK (pickL t6 t11 (.bool false)) fun t12 =>
  K t12 g
theorem ok43 {x0 x1 : LV} {g : LHeap} {K : LV → LHeap → Prop} (h : g.Wf → (∀ v ∈ ([x0, x1] : List LV), ∀ b ∈ v.objs, b < g.next) → F43 x0 x1 g K) : Ok Try.prog 43 [x0, x1] g K := by
  refine ok_fw Try.mixed Try.func43 (by kernel_rfl) (by kernel_rfl) (c := nd43 []) (by kernel_rfl) fun wf lt => ?_
  rw [← en43_eq]
  replace h := h wf lt
  generalize hs : startL _ = tm
  replace h : F43 (tm 0) (tm 1) g K := by rw [← hs]; exact h
  try unfold F43 at h
  refine code2_sound ok_mono _ _ _ ?_
  refine kmp ?_ h
  generalize Ok Try.prog = C
  try unfold en43
  as_aux_lemma => kernel_rfl

/-! slices.Delete[[]parapet/api.Key,parapet/api.Key] (33 slots) -/
noncomputable def en47 (K : LV → LHeap → Prop) : LEx → LSt → Prop := fun e st => match e with
  | .exit _ => False
  | _ => K (st.tm 6) st.g
theorem en47_eq (K : LV → LHeap → Prop) : en47 K = endL Try.prog Try.f47 K := by
  funext e st
  cases e <;> kernel_rfl
noncomputable def nd47 (p : List Nat) : Code := subC p (bodyC Try.prog 47)
noncomputable def F47 (x0 x1 x2 : LV) (g : LHeap) (K : LV → LHeap → Prop) : Prop :=
  oK (builtinL Try.prog .len [78] [x0] g) fun t12 g =>
  vK (cutT Try.prog 78 x0 (some x1) (some x2) (some t12) (limL x0 g)) fun t13 =>
  vK (binL Try.prog .eql 3 false x1 x2) fun t16 =>
  ifB t16 (
  K x0 g) (
  oK (builtinL Try.prog .len [78] [x0] g) fun t19 g =>
  vK (cutT Try.prog 78 x0 none (some x1) none (limL x0 g)) fun t22 =>
  vK (cutT Try.prog 78 x0 (some x2) none none (limL x0 g)) fun t25 =>
  ((oK (builtinL Try.prog .append [78, 78] [t22, t25] g) fun t26 g =>
  
  oK (builtinL Try.prog .len [78] [t26] g) fun t29 g =>
  vK (cutT Try.prog 78 t26 (some t29) (some t19) none (limL t26 g)) fun t31 =>
  oK (builtinL Try.prog .clear [78] [t31] g) fun u g =>
  K t26 g) ∧ True))
theorem ok47 {x0 x1 x2 : LV} {g : LHeap} {K : LV → LHeap → Prop} (h : g.Wf → (∀ v ∈ ([x0, x1, x2] : List LV), ∀ b ∈ v.objs, b < g.next) → F47 x0 x1 x2 g K) : Ok Try.prog 47 [x0, x1, x2] g K := by
  refine ok_fw Try.mixed Try.func47 (by kernel_rfl) (by kernel_rfl) (c := nd47 []) (by kernel_rfl) fun wf lt => ?_
  rw [← en47_eq]
  replace h := h wf lt
  generalize hs : startL _ = tm
  replace h : F47 (tm 0) (tm 1) (tm 2) g K := by rw [← hs]; exact h
  try unfold F47 at h
  refine code2_sound ok_mono _ _ _ ?_
  refine kmp ?_ h
  generalize Ok Try.prog = C
  try unfold en47
  as_aux_lemma => kernel_rfl

/-! (*parapet/frame.Frames).Decr (44 slots) -/
noncomputable def en49 (K : LV → LHeap → Prop) : LEx → LSt → Prop := fun e st => match e with
  | .exit _ => False
  | _ => K (.tuple [(st.tm 6), (st.tm 7)]) st.g
theorem en49_eq (K : LV → LHeap → Prop) : en49 K = endL Try.prog Try.f49 K := by
  funext e st
  cases e <;> kernel_rfl
noncomputable def nd49 (p : List Nat) : Code := subC p (bodyC Try.prog 49)
noncomputable def F49 (x0 x1 x2 : LV) (g : LHeap) (K : LV → LHeap → Prop) : Prop :=
  Ok Try.prog 37 [x0] g fun t10 g =>
  vK (unL .not t10) fun t11 =>
  ifB t11 (
  K (.tuple [(.bool false), (.int .i64 (6))]) g) (
  Ok Try.prog 38 [x0, x1] g fun t15 g =>
  vK (unL .not t15) fun t16 =>
  ifB t16 (
  K (.tuple [(.bool false), (.int .i64 (1))]) g) (
  Ok Try.prog 52 [x0, x2] g fun t20 g =>
  vK (binL Try.prog .eql 3 true t20 (.int .i64 (0))) fun t21 =>
  ifB t21 (
  K (.tuple [(.bool false), (.int .i64 (60))]) g) (
  vK (nilCheckP Try.prog x0) fun t23 =>
  vK (fieldAddrL 3 t23) fun t24 =>
  vK (loadV none t24 g) fun t25 =>
  vK (nilCheckP Try.prog x0) fun t28 =>
  vK (fieldAddrL 1 t28) fun t29 =>
  vK (loadV none t29 g) fun t30 =>
  vK (binL Try.prog .sub 3 false x2 t30) fun t31 =>
  vK (ixAddrL none 1 t25 t31) fun t32 =>
  vK (loadV none t32 g) fun t33 =>
  vK (binL Try.prog .sub 3 true t33 (.int .i64 (1))) fun t34 =>
  vK (ixAddrL none 1 t25 t31) fun t35 =>
  ((gK (storeV 1 t35 t34 g) fun g =>
  
  Ok Try.prog 52 [x0, x2] g fun t38 g =>
  vK (binL Try.prog .gtr 3 true t38 (.int .i64 (0))) fun t39 =>
  ifB t39 (
  K (.tuple [(.bool false), (.int .i64 (0))]) g) (
  Ok Try.prog 65 [x0, x1, x2] g fun t43 g =>
  K (.tuple [(.bool true), (.int .i64 (0))]) g)) ∧ True))))
theorem ok49 {x0 x1 x2 : LV} {g : LHeap} {K : LV → LHeap → Prop} (h : g.Wf → (∀ v ∈ ([x0, x1, x2] : List LV), ∀ b ∈ v.objs, b < g.next) → F49 x0 x1 x2 g K) : Ok Try.prog 49 [x0, x1, x2] g K := by
  refine ok_fw Try.mixed Try.func49 (by kernel_rfl) (by kernel_rfl) (c := nd49 []) (by kernel_rfl) fun wf lt => ?_
  rw [← en49_eq]
  replace h := h wf lt
  generalize hs : startL _ = tm
  replace h : F49 (tm 0) (tm 1) (tm 2) g K := by rw [← hs]; exact h
  try unfold F49 at h
  refine code3_sound ok_mono (pl := [(7, (.lt 0 false (.lt 1 false (.lt 2 false (.lt 3 false (.lt 4 false (.lt 5 false (.lt 6 false (.lt 7 false (.lt 8 false (.lt 9 false (.lt 10 false (.lt 11 false (.lt 12 false (.lt 13 false (.hv 14 .nil .nil))))))))))))))))]) _ _ _ (by kernel_rfl) ?_
  refine kmp ?_ h
  generalize Ok Try.prog = C
  try unfold en49
  as_aux_lemma => kernel_rfl

/-! (*parapet/frame.Frames).Count (42 slots) -/
noncomputable def en52 (K : LV → LHeap → Prop) : LEx → LSt → Prop := fun e st => match e with
  | .exit _ => False
  | _ => K (st.tm 4) st.g
theorem en52_eq (K : LV → LHeap → Prop) : en52 K = endL Try.prog Try.f52 K := by
  funext e st
  cases e <;> kernel_rfl
noncomputable def nd52 (p : List Nat) : Code := subC p (bodyC Try.prog 52)
noncomputable def J52_1 (x0 x1 : LV) (g : LHeap)  (K : LV → LHeap → Prop) : Prop :=
  vK (nilCheckP Try.prog x0) fun t31 =>
  vK (fieldAddrL 3 t31) fun t32 =>
  vK (loadV none t32 g) fun t33 =>
  vK (nilCheckP Try.prog x0) fun t36 =>
  vK (fieldAddrL 1 t36) fun t37 =>
  vK (loadV none t37 g) fun t38 =>
  vK (binL Try.prog .sub 3 false x1 t38) fun t39 =>
  vK (ixAddrL none 1 t33 t39) fun t40 =>
  vK (loadV none t40 g) fun t41 =>
  K t41 g
abbrev kj52_1  (K : LV → LHeap → Prop) : LSt → Prop := fun st => J52_1 (st.tm 0) (st.tm 1) st.g  K
theorem J52_1_ok  (K : LV → LHeap → Prop) (tm : Nat → LV) (g : LHeap) (h : J52_1 (tm 0) (tm 1) g  K) : codeL Try.prog (Ok Try.prog) (nd52 [1, 1]) ⟨tm, g⟩ (en52 K) := by
  try unfold J52_1 at h
  refine code3_sound ok_mono (pl := [(3, (.lt 0 false (.lt 1 false (.lt 2 false (.lt 3 false (.lt 4 false (.lt 5 false (.lt 6 false (.lt 7 false (.lt 8 false (.lt 9 false (.lt 10 false (.lt 11 false (.lt 12 false .nil))))))))))))))]) _ _ _ (by kernel_rfl) ?_
  refine kmp ?_ h
  generalize Ok Try.prog = C
  try unfold en52
  as_aux_lemma => kernel_rfl

noncomputable def J52_0 (x0 x1 : LV) (g : LHeap)  (K : LV → LHeap → Prop) : Prop :=
  ((Ok Try.prog 37 [x0] g fun t6 g =>
  
  vK (unL .not t6) fun t7 =>
  gdV t7 false (some x1) fun t9 =>
  gdV t7 false (some x0) fun t10 =>
  gdV t7 false (nilCheckP Try.prog t10) fun t11 =>
  gdV t7 false (fieldAddrL 1 t11) fun t12 =>
  gdD t7 false (loadV none t12 g) (fun t13 =>
  gdV t7 false (binL Try.prog .lss 3 false t9 t13) fun t14 =>
  vK (pickL t7 (.bool true) t14) fun t15 =>
  gdV t15 false (some x1) fun t17 =>
  gdV t15 false (some x0) fun t18 =>
  gdV t15 false (nilCheckP Try.prog t18) fun t19 =>
  gdV t15 false (fieldAddrL 1 t19) fun t20 =>
  gdD t15 false (loadV none t20 g) (fun t21 =>
  gdV t15 false (binL Try.prog .sub 3 false t17 t21) fun t22 =>
  gdV t15 false (some x0) fun t23 =>
  gdV t15 false (nilCheckP Try.prog t23) fun t24 =>
  gdV t15 false (fieldAddrL 3 t24) fun t25 =>
  gdD t15 false (loadV none t25 g) (fun t26 =>
  gdV t15 false (lenL Try.prog 22 t26 g) fun t27 =>
  gdV t15 false (binL Try.prog .geq 3 false t22 t27) fun t28 =>
  vK (pickL t15 (.bool true) t28) fun t29 =>
  ifB t29 (
  K (.int .i64 (0)) g) (
  J52_1 x0 x1 g  K)) (
  gdV t15 false (lenL Try.prog 22 undefL g) fun t27 =>
  gdV t15 false (binL Try.prog .geq 3 false t22 t27) fun t28 =>
  vK (pickL t15 (.bool true) t28) fun t29 =>
  ifB t29 (
  K (.int .i64 (0)) g) (
  J52_1 x0 x1 g  K))) (
  gdV t15 false (binL Try.prog .sub 3 false t17 undefL) fun t22 =>
  gdV t15 false (some x0) fun t23 =>
  gdV t15 false (nilCheckP Try.prog t23) fun t24 =>
  gdV t15 false (fieldAddrL 3 t24) fun t25 =>
  gdD t15 false (loadV none t25 g) (fun t26 =>
  gdV t15 false (lenL Try.prog 22 t26 g) fun t27 =>
  gdV t15 false (binL Try.prog .geq 3 false t22 t27) fun t28 =>
  vK (pickL t15 (.bool true) t28) fun t29 =>
  ifB t29 (
  K (.int .i64 (0)) g) (
  J52_1 x0 x1 g  K)) (
  gdV t15 false (lenL Try.prog 22 undefL g) fun t27 =>
  gdV t15 false (binL Try.prog .geq 3 false t22 t27) fun t28 =>
  vK (pickL t15 (.bool true) t28) fun t29 =>
  ifB t29 (
  K (.int .i64 (0)) g) (
  J52_1 x0 x1 g  K)))) (
  gdV t7 false (binL Try.prog .lss 3 false t9 undefL) fun t14 =>
  vK (pickL t7 (.bool true) t14) fun t15 =>
  gdV t15 false (some x1) fun t17 =>
  gdV t15 false (some x0) fun t18 =>
  gdV t15 false (nilCheckP Try.prog t18) fun t19 =>
  gdV t15 false (fieldAddrL 1 t19) fun t20 =>
  gdD t15 false (loadV none t20 g) (fun t21 =>
  gdV t15 false (binL Try.prog .sub 3 false t17 t21) fun t22 =>
  gdV t15 false (some x0) fun t23 =>
  gdV t15 false (nilCheckP Try.prog t23) fun t24 =>
  gdV t15 false (fieldAddrL 3 t24) fun t25 =>
  gdD t15 false (loadV none t25 g) (fun t26 =>
  gdV t15 false (lenL Try.prog 22 t26 g) fun t27 =>
  gdV t15 false (binL Try.prog .geq 3 false t22 t27) fun t28 =>
  vK (pickL t15 (.bool true) t28) fun t29 =>
  ifB t29 (
  K (.int .i64 (0)) g) (
  J52_1 x0 x1 g  K)) (
  gdV t15 false (lenL Try.prog 22 undefL g) fun t27 =>
  gdV t15 false (binL Try.prog .geq 3 false t22 t27) fun t28 =>
  vK (pickL t15 (.bool true) t28) fun t29 =>
  ifB t29 (
  K (.int .i64 (0)) g) (
  J52_1 x0 x1 g  K))) (
  gdV t15 false (binL Try.prog .sub 3 false t17 undefL) fun t22 =>
  gdV t15 false (some x0) fun t23 =>
  gdV t15 false (nilCheckP Try.prog t23) fun t24 =>
  gdV t15 false (fieldAddrL 3 t24) fun t25 =>
  gdD t15 false (loadV none t25 g) (fun t26 =>
  gdV t15 false (lenL Try.prog 22 t26 g) fun t27 =>
  gdV t15 false (binL Try.prog .geq 3 false t22 t27) fun t28 =>
  vK (pickL t15 (.bool true) t28) fun t29 =>
  ifB t29 (
  K (.int .i64 (0)) g) (
  J52_1 x0 x1 g  K)) (
  gdV t15 false (lenL Try.prog 22 undefL g) fun t27 =>
  gdV t15 false (binL Try.prog .geq 3 false t22 t27) fun t28 =>
  vK (pickL t15 (.bool true) t28) fun t29 =>
  ifB t29 (
  K (.int .i64 (0)) g) (
  J52_1 x0 x1 g  K))))) ∧ True)
abbrev kj52_0  (K : LV → LHeap → Prop) : LSt → Prop := fun st => J52_0 (st.tm 0) (st.tm 1) st.g  K
theorem J52_0_ok  (K : LV → LHeap → Prop) (tm : Nat → LV) (g : LHeap) (h : J52_0 (tm 0) (tm 1) g  K) : codeL Try.prog (Ok Try.prog) (nd52 [1]) ⟨tm, g⟩ (en52 K) := by
  refine seq_i (a := nd52 [1, 0]) (b := nd52 [1, 1]) (k' := kj52_1  K) (by kernel_rfl) (fun st h => J52_1_ok  K st.tm st.g h) ?_
  try unfold J52_0 at h
  unfold kj52_1
  generalize @J52_1 = Q52_1 at h ⊢
  refine code3_sound ok_mono (pl := [(1, (.lt 0 false (.hv 1 (.lt 2 false (.lt 3 false (.lt 4 false (.lt 5 false (.lt 6 false (.lt 7 false (.lt 8 true (.lt 9 false (.lt 10 false (.lt 11 false (.lt 12 false (.lt 13 false (.lt 14 false (.lt 15 false (.lt 16 true (.lt 17 false (.lt 18 false (.lt 19 false (.lt 20 false (.lt 21 true (.lt 22 false (.lt 23 false (.lt 24 false .nil))))))))))))))))))))))) .nil)))]) _ _ _ (by kernel_rfl) ?_
  refine kmp ?_ h
  generalize Ok Try.prog = C
  try unfold en52
  as_aux_lemma => kernel_rfl

noncomputable def F52 (x0 x1 : LV) (g : LHeap) (K : LV → LHeap → Prop) : Prop :=
  J52_0 x0 x1 g  K
theorem ok52 {x0 x1 : LV} {g : LHeap} {K : LV → LHeap → Prop} (h : g.Wf → (∀ v ∈ ([x0, x1] : List LV), ∀ b ∈ v.objs, b < g.next) → F52 x0 x1 g K) : Ok Try.prog 52 [x0, x1] g K := by
  refine ok_fw Try.mixed Try.func52 (by kernel_rfl) (by kernel_rfl) (c := nd52 []) (by kernel_rfl) fun wf lt => ?_
  rw [← en52_eq]
  replace h := h wf lt
  generalize hs : startL _ = tm
  replace h : F52 (tm 0) (tm 1) g K := by rw [← hs]; exact h
  refine seq_i (a := nd52 [0]) (b := nd52 [1]) (k' := kj52_0  K) (by kernel_rfl) (fun st h => J52_0_ok  K st.tm st.g h) ?_
  try unfold F52 at h
  unfold kj52_0
  generalize @J52_0 = Q52_0 at h ⊢
  refine code2_sound ok_mono _ _ _ ?_
  refine kmp ?_ h
  generalize Ok Try.prog = C
  try unfold en52
  as_aux_lemma => kernel_rfl

/-! (*parapet/tlb.Tlb).Flush (19 slots) -/
noncomputable def en54 (K : LV → LHeap → Prop) : LEx → LSt → Prop := fun e st => match e with
  | .exit _ => False
  | _ => K (st.tm 6) st.g
theorem en54_eq (K : LV → LHeap → Prop) : en54 K = endL Try.prog Try.f54 K := by
  funext e st
  cases e <;> kernel_rfl
noncomputable def nd54 (p : List Nat) : Code := subC p (bodyC Try.prog 54)
noncomputable def F54 (x0 x1 x2 : LV) (g : LHeap) (K : LV → LHeap → Prop) : Prop :=
  Ok Try.prog 43 [x0, x1] g fun t9 g =>
  vK (unL .not t9) fun t10 =>
  ifB t10 (
  K (.int .i64 (0)) g) (
  vK (nilCheckP Try.prog x0) fun t12 =>
  vK (fieldAddrL 1 t12) fun t13 =>
  vK (loadV none t13 g) fun t14 =>
  vK (ixAddrL none 2 t14 x1) fun t16 =>
  Ok Try.prog 69 [t16, x2] g fun t18 g =>
  K t18 g)
theorem ok54 {x0 x1 x2 : LV} {g : LHeap} {K : LV → LHeap → Prop} (h : g.Wf → (∀ v ∈ ([x0, x1, x2] : List LV), ∀ b ∈ v.objs, b < g.next) → F54 x0 x1 x2 g K) : Ok Try.prog 54 [x0, x1, x2] g K := by
  refine ok_fw Try.mixed Try.func54 (by kernel_rfl) (by kernel_rfl) (c := nd54 []) (by kernel_rfl) fun wf lt => ?_
  rw [← en54_eq]
  replace h := h wf lt
  generalize hs : startL _ = tm
  replace h : F54 (tm 0) (tm 1) (tm 2) g K := by rw [← hs]; exact h
  try unfold F54 at h
  refine code2_sound ok_mono _ _ _ ?_
  refine kmp ?_ h
  generalize Ok Try.prog = C
  try unfold en54
  as_aux_lemma => kernel_rfl

/-! slices.Clone[[]int,int] (8 slots) -/
noncomputable def en59 (K : LV → LHeap → Prop) : LEx → LSt → Prop := fun e st => match e with
  | .exit _ => False
  | _ => K (st.tm 2) st.g
theorem en59_eq (K : LV → LHeap → Prop) : en59 K = endL Try.prog Try.f59 K := by
  funext e st
  cases e <;> kernel_rfl
noncomputable def nd59 (p : List Nat) : Code := subC p (bodyC Try.prog 59)
noncomputable def F59 (x0 : LV) (g : LHeap) (K : LV → LHeap → Prop) : Prop :=
  vK (binL Try.prog .eql 22 true x0 .nils) fun t4 =>
  ifB t4 (
  K .nils g) (
  oK (buildSliceL Try.prog 22 0 [] g) fun t5 g =>
  oK (builtinL Try.prog .append [22, 22] [t5, x0] g) fun t7 g =>
  K t7 g)
theorem ok59 {x0 : LV} {g : LHeap} {K : LV → LHeap → Prop} (h : g.Wf → (∀ v ∈ ([x0] : List LV), ∀ b ∈ v.objs, b < g.next) → F59 x0 g K) : Ok Try.prog 59 [x0] g K := by
  refine ok_fw Try.mixed Try.func59 (by kernel_rfl) (by kernel_rfl) (c := nd59 []) (by kernel_rfl) fun wf lt => ?_
  rw [← en59_eq]
  replace h := h wf lt
  generalize hs : startL _ = tm
  replace h : F59 (tm 0) g K := by rw [← hs]; exact h
  try unfold F59 at h
  refine code2_sound ok_mono _ _ _ ?_
  refine kmp ?_ h
  generalize Ok Try.prog = C
  try unfold en59
  as_aux_lemma => kernel_rfl

/-! (*parapet/phys.Mem).span (48 slots) -/
noncomputable def en60 (K : LV → LHeap → Prop) : LEx → LSt → Prop := fun e st => match e with
  | .exit _ => False
  | _ => K (.tuple [(st.tm 6), (st.tm 7)]) st.g
theorem en60_eq (K : LV → LHeap → Prop) : en60 K = endL Try.prog Try.f60 K := by
  funext e st
  cases e <;> kernel_rfl
noncomputable def nd60 (p : List Nat) : Code := subC p (bodyC Try.prog 60)
noncomputable def F60 (x0 x1 x2 : LV) (g : LHeap) (K : LV → LHeap → Prop) : Prop :=
  vK (binL Try.prog .eql 29 true x0 .nilp) fun t9 =>
  ifB t9 (
  K (.tuple [.nils, (.int .i64 (6))]) g) (
  vK (binL Try.prog .lss 3 true x2 (.int .i64 (0))) fun t11 =>
  gd t11 false g (fun K => K x1 g) fun t13 g =>
  gd t11 false g (fun K => vK (binL Try.prog .lss 3 true t13 (.int .i64 (0))) fun v => K v g) fun t14 g =>
  vK (pickL t11 (.bool true) t14) fun t15 =>
  gd t15 false g (fun K => K x1 g) fun t17 g =>
  gd t15 false g (fun K => K x0 g) fun t18 g =>
  gd t15 false g (fun K => vK (nilCheckP Try.prog t18) fun v => K v g) fun t19 g =>
  gd t15 false g (fun K => vK (fieldAddrL 0 t19) fun v => K v g) fun t20 g =>
  gd t15 false g (fun K => vK (loadV none t20 g) fun v => K v g) fun t21 g =>
  gd t15 false g (fun K => oK (builtinL Try.prog .len [67] [t21] g) K) fun t22 g =>
  gd t15 false g (fun K => vK (binL Try.prog .gtr 3 false t17 t22) fun v => K v g) fun t23 g =>
  vK (pickL t15 (.bool true) t23) fun t24 =>
  gd t24 false g (fun K => K x2 g) fun t26 g =>
  gd t24 false g (fun K => K x0 g) fun t27 g =>
  gd t24 false g (fun K => vK (nilCheckP Try.prog t27) fun v => K v g) fun t28 g =>
  gd t24 false g (fun K => vK (fieldAddrL 0 t28) fun v => K v g) fun t29 g =>
  gd t24 false g (fun K => vK (loadV none t29 g) fun v => K v g) fun t30 g =>
  gd t24 false g (fun K => oK (builtinL Try.prog .len [67] [t30] g) K) fun t31 g =>
  gd t24 false g (fun K => K x1 g) fun t32 g =>
  gd t24 false g (fun K => vK (binL Try.prog .sub 3 false t31 t32) fun v => K v g) fun t33 g =>
  gd t24 false g (fun K => vK (binL Try.prog .gtr 3 false t26 t33) fun v => K v g) fun t34 g =>
  vK (pickL t24 (.bool true) t34) fun t35 =>
  ifB t35 (
  K (.tuple [.nils, (.int .i64 (10))]) g) (
  vK (nilCheckP Try.prog x0) fun t37 =>
  vK (fieldAddrL 0 t37) fun t38 =>
  vK (loadV none t38 g) fun t39 =>
  vK (binL Try.prog .add 3 false x1 x2) fun t43 =>
  vK (binL Try.prog .add 3 false x1 x2) fun t46 =>
  vK (cutT Try.prog 67 t39 (some x1) (some t43) (some t46) (limL t39 g)) fun t47 =>
  K (.tuple [t47, (.int .i64 (0))]) g))
theorem ok60 {x0 x1 x2 : LV} {g : LHeap} {K : LV → LHeap → Prop} (h : g.Wf → (∀ v ∈ ([x0, x1, x2] : List LV), ∀ b ∈ v.objs, b < g.next) → F60 x0 x1 x2 g K) : Ok Try.prog 60 [x0, x1, x2] g K := by
  refine ok_fw Try.mixed Try.func60 (by kernel_rfl) (by kernel_rfl) (c := nd60 []) (by kernel_rfl) fun wf lt => ?_
  rw [← en60_eq]
  replace h := h wf lt
  generalize hs : startL _ = tm
  replace h : F60 (tm 0) (tm 1) (tm 2) g K := by rw [← hs]; exact h
  try unfold F60 at h
  refine code2_sound ok_mono _ _ _ ?_
  refine kmp ?_ h
  generalize Ok Try.prog = C
  try unfold en60
  as_aux_lemma => kernel_rfl

/-! (*parapet/phys.Mem).Load32 (39 slots) -/
noncomputable def en63 (K : LV → LHeap → Prop) : LEx → LSt → Prop := fun e st => match e with
  | .exit _ => False
  | _ => K (.tuple [(st.tm 4), (st.tm 5)]) st.g
theorem en63_eq (K : LV → LHeap → Prop) : en63 K = endL Try.prog Try.f63 K := by
  funext e st
  cases e <;> kernel_rfl
noncomputable def nd63 (p : List Nat) : Code := subC p (bodyC Try.prog 63)
noncomputable def F63 (x0 x1 : LV) (g : LHeap) (K : LV → LHeap → Prop) : Prop :=
  Ok Try.prog 73 [x0, x1] g fun t11 g =>
  vK (extractL t11 0) fun t12 =>
  vK (extractL t11 1) fun t13 =>
  vK (binL Try.prog .neq 27 true t13 (.int .i64 (0))) fun t15 =>
  ifB t15 (
  K (.tuple [(.int .u32 (0)), t13]) g) (
  vK (ixAddrL none 1 t12 (.int .i64 (0))) fun t18 =>
  vK (loadV none t18 g) fun t19 =>
  vK (convLightL Try.prog 5 53 t19 g) fun t20 =>
  vK (ixAddrL none 1 t12 (.int .i64 (1))) fun t22 =>
  vK (loadV none t22 g) fun t23 =>
  vK (convLightL Try.prog 5 53 t23 g) fun t24 =>
  vK (binL Try.prog .shl 53 true t24 (.int .u64 (8))) fun t25 =>
  vK (binL Try.prog .or 53 false t20 t25) fun t26 =>
  vK (ixAddrL none 1 t12 (.int .i64 (2))) fun t28 =>
  vK (loadV none t28 g) fun t29 =>
  vK (convLightL Try.prog 5 53 t29 g) fun t30 =>
  vK (binL Try.prog .shl 53 true t30 (.int .u64 (16))) fun t31 =>
  vK (binL Try.prog .or 53 false t26 t31) fun t32 =>
  vK (ixAddrL none 1 t12 (.int .i64 (3))) fun t34 =>
  vK (loadV none t34 g) fun t35 =>
  vK (convLightL Try.prog 5 53 t35 g) fun t36 =>
  vK (binL Try.prog .shl 53 true t36 (.int .u64 (24))) fun t37 =>
  vK (binL Try.prog .or 53 false t32 t37) fun t38 =>
  K (.tuple [t38, (.int .i64 (0))]) g)
theorem ok63 {x0 x1 : LV} {g : LHeap} {K : LV → LHeap → Prop} (h : g.Wf → (∀ v ∈ ([x0, x1] : List LV), ∀ b ∈ v.objs, b < g.next) → F63 x0 x1 g K) : Ok Try.prog 63 [x0, x1] g K := by
  refine ok_fw Try.mixed Try.func63 (by kernel_rfl) (by kernel_rfl) (c := nd63 []) (by kernel_rfl) fun wf lt => ?_
  rw [← en63_eq]
  replace h := h wf lt
  generalize hs : startL _ = tm
  replace h : F63 (tm 0) (tm 1) g K := by rw [← hs]; exact h
  try unfold F63 at h
  refine code3_sound ok_mono (pl := [(4, (.lt 0 false (.lt 1 false (.lt 2 false (.lt 3 false (.lt 4 false (.lt 5 false (.lt 6 false (.lt 7 false (.lt 8 false (.lt 9 false (.lt 10 false (.lt 11 false (.lt 12 false (.lt 13 false (.lt 14 false (.lt 15 false (.lt 16 false (.lt 17 false (.lt 18 false (.lt 19 false (.lt 20 false (.lt 21 false (.lt 22 false (.lt 23 false .nil)))))))))))))))))))))))))]) _ _ _ (by kernel_rfl) ?_
  refine kmp ?_ h
  generalize Ok Try.prog = C
  try unfold en63
  as_aux_lemma => kernel_rfl

/-! (*parapet/frame.Frames).back (49 slots) -/
noncomputable def en65 (K : LV → LHeap → Prop) : LEx → LSt → Prop := fun e st => match e with
  | .exit _ => False
  | _ => K (.tuple []) st.g
theorem en65_eq (K : LV → LHeap → Prop) : en65 K = endL Try.prog Try.f65 K := by
  funext e st
  cases e <;> kernel_rfl
noncomputable def nd65 (p : List Nat) : Code := subC p (bodyC Try.prog 65)
noncomputable def J65_2 (x0 x1 x6 : LV) (g : LHeap)  (K : LV → LHeap → Prop) : Prop :=
  vK (nilCheckP Try.prog x0) fun t46 =>
  vK (fieldAddrL 4 t46) fun t47 =>
  vK (ixAddrL (some 8) 1 t47 x1) fun t48 =>
  gK (storeV 1 t48 x6 g) fun g =>
  K (.tuple []) g
abbrev kj65_2  (K : LV → LHeap → Prop) : LSt → Prop := fun st => J65_2 (st.tm 0) (st.tm 1) (st.tm 6) st.g  K
theorem J65_2_ok  (K : LV → LHeap → Prop) (tm : Nat → LV) (g : LHeap) (h : J65_2 (tm 0) (tm 1) (tm 6) g  K) : codeL Try.prog (Ok Try.prog) (nd65 [1, 1, 1]) ⟨tm, g⟩ (en65 K) := by
  try unfold J65_2 at h
  refine code2_sound ok_mono _ _ _ ?_
  refine kmp ?_ h
  generalize Ok Try.prog = C
  try unfold en65
  as_aux_lemma => kernel_rfl

noncomputable def J65_1 (x0 x1 x6 : LV) (g : LHeap)  (K : LV → LHeap → Prop) : Prop :=
  oK (builtinL Try.prog .len [22] [x6] g) fun t23 g =>
  vK (binL Try.prog .gtr 3 true t23 (.int .i64 (16))) fun t24 =>
  ifB t24 (
  vK (nilCheckP Try.prog x0) fun t27 =>
  vK (fieldAddrL 12 t27) fun t28 =>
  vK (loadV none t28 g) fun t29 =>
  vK (cutT Try.prog 22 x6 none (some (.int .i64 (8))) none (limL x6 g)) fun t31 =>
  ((oK (builtinL Try.prog .append [22, 22] [t29, t31] g) fun t32 g =>
  
  vK (nilCheckP Try.prog x0) fun t33 =>
  vK (fieldAddrL 12 t33) fun t34 =>
  ((gK (storeV 1 t34 t32 g) fun g =>
  
  vK (nilCheckP Try.prog x0) fun t36 =>
  vK (fieldAddrL 12 t36) fun t37 =>
  vK (loadV none t37 g) fun t38 =>
  Ok Try.prog 74 [t38] g fun t39 g =>
  vK (cutT Try.prog 22 x6 (some (.int .i64 (8))) none none (limL x6 g)) fun t41 =>
  Ok Try.prog 59 [t41] g fun t42 g =>
  J65_2 x0 x1 t42 g  K) ∧ True)) ∧ True)) (
  J65_2 x0 x1 x6 g  K)
abbrev kj65_1  (K : LV → LHeap → Prop) : LSt → Prop := fun st => J65_1 (st.tm 0) (st.tm 1) (st.tm 6) st.g  K
theorem J65_1_ok  (K : LV → LHeap → Prop) (tm : Nat → LV) (g : LHeap) (h : J65_1 (tm 0) (tm 1) (tm 6) g  K) : codeL Try.prog (Ok Try.prog) (nd65 [1, 1]) ⟨tm, g⟩ (en65 K) := by
  refine seq_i (a := nd65 [1, 1, 0]) (b := nd65 [1, 1, 1]) (k' := kj65_2  K) (by kernel_rfl) (fun st h => J65_2_ok  K st.tm st.g h) ?_
  try unfold J65_1 at h
  unfold kj65_2
  generalize @J65_2 = Q65_2 at h ⊢
  refine code2_sound ok_mono _ _ _ ?_
  refine kmp ?_ h
  generalize Ok Try.prog = C
  try unfold en65
  as_aux_lemma => kernel_rfl

noncomputable def J65_0 (x0 x1 x2 : LV) (g : LHeap)  (K : LV → LHeap → Prop) : Prop :=
  vK (nilCheckP Try.prog x0) fun t15 =>
  vK (fieldAddrL 4 t15) fun t16 =>
  vK (ixAddrL (some 8) 1 t16 x1) fun t17 =>
  vK (loadV none t17 g) fun t18 =>
  oK (buildSliceL Try.prog 22 1 [(0, x2)] g) fun t20 g =>
  oK (builtinL Try.prog .append [22, 22] [t18, t20] g) fun t21 g =>
  J65_1 x0 x1 t21 g  K
abbrev kj65_0  (K : LV → LHeap → Prop) : LSt → Prop := fun st => J65_0 (st.tm 0) (st.tm 1) (st.tm 2) st.g  K
theorem J65_0_ok  (K : LV → LHeap → Prop) (tm : Nat → LV) (g : LHeap) (h : J65_0 (tm 0) (tm 1) (tm 2) g  K) : codeL Try.prog (Ok Try.prog) (nd65 [1]) ⟨tm, g⟩ (en65 K) := by
  refine seq_i (a := nd65 [1, 0]) (b := nd65 [1, 1]) (k' := kj65_1  K) (by kernel_rfl) (fun st h => J65_1_ok  K st.tm st.g h) ?_
  try unfold J65_0 at h
  unfold kj65_1
  generalize @J65_1 = Q65_1 at h ⊢
  refine code2_sound ok_mono _ _ _ ?_
  refine kmp ?_ h
  generalize Ok Try.prog = C
  try unfold en65
  as_aux_lemma => kernel_rfl

noncomputable def F65 (x0 x1 x2 : LV) (g : LHeap) (K : LV → LHeap → Prop) : Prop :=
  vK (nilCheckP Try.prog x0) fun t8 =>
  vK (fieldAddrL 0 t8) fun t9 =>
  vK (loadV none t9 g) fun t10 =>
  Ok Try.prog 22 [t10, x2] g fun t12 g =>
  J65_0 x0 x1 x2 g  K
theorem ok65 {x0 x1 x2 : LV} {g : LHeap} {K : LV → LHeap → Prop} (h : g.Wf → (∀ v ∈ ([x0, x1, x2] : List LV), ∀ b ∈ v.objs, b < g.next) → F65 x0 x1 x2 g K) : Ok Try.prog 65 [x0, x1, x2] g K := by
  refine ok_fw Try.mixed Try.func65 (by kernel_rfl) (by kernel_rfl) (c := nd65 []) (by kernel_rfl) fun wf lt => ?_
  rw [← en65_eq]
  replace h := h wf lt
  generalize hs : startL _ = tm
  replace h : F65 (tm 0) (tm 1) (tm 2) g K := by rw [← hs]; exact h
  refine seq_i (a := nd65 [0]) (b := nd65 [1]) (k' := kj65_0  K) (by kernel_rfl) (fun st h => J65_0_ok  K st.tm st.g h) ?_
  try unfold F65 at h
  unfold kj65_0
  generalize @J65_0 = Q65_0 at h ⊢
  refine code2_sound ok_mono _ _ _ ?_
  refine kmp ?_ h
  generalize Ok Try.prog = C
  try unfold en65
  as_aux_lemma => kernel_rfl

/-! (*parapet/phys.Mem).Store32 (33 slots) -/
noncomputable def en68 (K : LV → LHeap → Prop) : LEx → LSt → Prop := fun e st => match e with
  | .exit _ => False
  | _ => K (st.tm 6) st.g
theorem en68_eq (K : LV → LHeap → Prop) : en68 K = endL Try.prog Try.f68 K := by
  funext e st
  cases e <;> kernel_rfl
noncomputable def nd68 (p : List Nat) : Code := subC p (bodyC Try.prog 68)
noncomputable def J68_3 (g : LHeap)  (K : LV → LHeap → Prop) : Prop :=
  K (.int .i64 (0)) g
abbrev kj68_3  (K : LV → LHeap → Prop) : LSt → Prop := fun st => J68_3  st.g  K
theorem J68_3_ok  (K : LV → LHeap → Prop) (tm : Nat → LV) (g : LHeap) (h : J68_3  g  K) : codeL Try.prog (Ok Try.prog) (nd68 [1, 1, 1, 1]) ⟨tm, g⟩ (en68 K) := by
  try unfold J68_3 at h
  refine code2_sound ok_mono _ _ _ ?_
  refine kmp ?_ h
  generalize Ok Try.prog = C
  try unfold en68
  as_aux_lemma => kernel_rfl

noncomputable def L68_5 (x2 x7 x20 : LV) (x21 : LV) (g : LHeap) (N5 : LV → LHeap → Prop) (K : LV → LHeap → Prop) : Prop :=
  vK (binL Try.prog .lss 3 false x21 x20) fun t22 =>
  ifB t22 (
  vK (binL Try.prog .mul 3 true (.int .i64 (8)) x21) fun t28 =>
  vK (binL Try.prog .shr 53 false x2 t28) fun t29 =>
  oK (convL Try.prog 53 5 t29 g) fun t30 g =>
  vK (ixAddrL none 1 x7 x21) fun t31 =>
  gK (storeV 1 t31 t30 g) fun g =>
  vK (binL Try.prog .add 3 true x21 (.int .i64 (1))) fun t32 =>
  N5 t32 g) (
  J68_3  g  K)
theorem L68_5_ok (R5 : LV × LV × LV → LV → LHeap → Prop) (K : LV → LHeap → Prop) (tm : Nat → LV) (g : LHeap) (h : L68_5 (tm 2) (tm 7) (tm 20) (tm 21) g (fun s g => R5 ((tm 2), (tm 7), (tm 20)) s g) K) : codeL Try.prog (Ok Try.prog) (nd68 [1, 1, 1, 0, 1, 0, 0]) ⟨tm, g⟩ (roundK (fun tm : Nat → LV => (tm 2, tm 7, tm 20)) (fun tm : Nat → LV => tm 21) R5 (exitL 0 (thenL (kj68_3  K) (en68 K)))) := by
  try unfold L68_5 at h
  unfold kj68_3
  generalize @J68_3 = Q68_3 at h ⊢
  refine code2_sound ok_mono _ _ _ ?_
  refine kmp ?_ h
  generalize Ok Try.prog = C
  try unfold en68
  as_aux_lemma => kernel_rfl

noncomputable def J68_4 (x2 x7 x20 x21 : LV) (g : LHeap)  (K : LV → LHeap → Prop) : Prop :=
  loopP (fun s g N => L68_5 x2 x7 x20 s g N  K) x21 g
abbrev kj68_4  (K : LV → LHeap → Prop) : LSt → Prop := fun st => J68_4 (st.tm 2) (st.tm 7) (st.tm 20) (st.tm 21) st.g  K
theorem J68_4_ok  (K : LV → LHeap → Prop) (tm : Nat → LV) (g : LHeap) (h : J68_4 (tm 2) (tm 7) (tm 20) (tm 21) g  K) : codeL Try.prog (Ok Try.prog) (nd68 [1, 1, 1, 0, 1]) ⟨tm, g⟩ (thenL (kj68_3  K) (en68 K)) := by
  refine block_i (b := nd68 [1, 1, 1, 0, 1, 0]) (i := 0) (by kernel_rfl) ?_
  exact loop_glue (b := nd68 [1, 1, 1, 0, 1, 0, 0]) (by kernel_rfl) (fun tm : Nat → LV => (tm 2, tm 7, tm 20)) (fun tm : Nat → LV => tm 21) (fun a s g N => L68_5 a.1 a.2.1 a.2.2 s g N  K) (fun tm g R h => L68_5_ok R  K tm g h) tm g h

noncomputable def J68_2 (x2 x7 : LV) (g : LHeap)  (K : LV → LHeap → Prop) : Prop :=
  oK (builtinL Try.prog .len [67] [x7] g) fun t20 g =>
  J68_4 x2 x7 t20 (.int .i64 (0)) g  K
abbrev kj68_2  (K : LV → LHeap → Prop) : LSt → Prop := fun st => J68_2 (st.tm 2) (st.tm 7) st.g  K
theorem J68_2_ok  (K : LV → LHeap → Prop) (tm : Nat → LV) (g : LHeap) (h : J68_2 (tm 2) (tm 7) g  K) : codeL Try.prog (Ok Try.prog) (nd68 [1, 1, 1]) ⟨tm, g⟩ (en68 K) := by
  refine seq_i (a := nd68 [1, 1, 1, 0]) (b := nd68 [1, 1, 1, 1]) (k' := kj68_3  K) (by kernel_rfl) (fun st h => J68_3_ok  K st.tm st.g h) ?_
  refine seq_i (a := nd68 [1, 1, 1, 0, 0]) (b := nd68 [1, 1, 1, 0, 1]) (k' := kj68_4  K) (by kernel_rfl) (fun st h => J68_4_ok  K st.tm st.g h) ?_
  try unfold J68_2 at h
  unfold kj68_4
  generalize @J68_4 = Q68_4 at h ⊢
  unfold kj68_3
  generalize @J68_3 = Q68_3 at h ⊢
  refine code2_sound ok_mono _ _ _ ?_
  refine kmp ?_ h
  generalize Ok Try.prog = C
  try unfold en68
  as_aux_lemma => kernel_rfl

noncomputable def J68_1 (x2 x7 x8 : LV) (g : LHeap)  (K : LV → LHeap → Prop) : Prop :=
  vK (binL Try.prog .neq 27 true x8 (.int .i64 (0))) fun t17 =>
  ifB t17 (
  K x8 g) (
  J68_2 x2 x7 g  K)
abbrev kj68_1  (K : LV → LHeap → Prop) : LSt → Prop := fun st => J68_1 (st.tm 2) (st.tm 7) (st.tm 8) st.g  K
theorem J68_1_ok  (K : LV → LHeap → Prop) (tm : Nat → LV) (g : LHeap) (h : J68_1 (tm 2) (tm 7) (tm 8) g  K) : codeL Try.prog (Ok Try.prog) (nd68 [1, 1]) ⟨tm, g⟩ (en68 K) := by
  refine seq_i (a := nd68 [1, 1, 0]) (b := nd68 [1, 1, 1]) (k' := kj68_2  K) (by kernel_rfl) (fun st h => J68_2_ok  K st.tm st.g h) ?_
  try unfold J68_1 at h
  unfold kj68_2
  generalize @J68_2 = Q68_2 at h ⊢
  refine code2_sound ok_mono _ _ _ ?_
  refine kmp ?_ h
  generalize Ok Try.prog = C
  try unfold en68
  as_aux_lemma => kernel_rfl

noncomputable def J68_0 (x0 x1 x2 : LV) (g : LHeap)  (K : LV → LHeap → Prop) : Prop :=
  Ok Try.prog 73 [x0, x1] g fun t13 g =>
  vK (extractL t13 0) fun t14 =>
  vK (extractL t13 1) fun t15 =>
  J68_1 x2 t14 t15 g  K
abbrev kj68_0  (K : LV → LHeap → Prop) : LSt → Prop := fun st => J68_0 (st.tm 0) (st.tm 1) (st.tm 2) st.g  K
theorem J68_0_ok  (K : LV → LHeap → Prop) (tm : Nat → LV) (g : LHeap) (h : J68_0 (tm 0) (tm 1) (tm 2) g  K) : codeL Try.prog (Ok Try.prog) (nd68 [1]) ⟨tm, g⟩ (en68 K) := by
  refine seq_i (a := nd68 [1, 0]) (b := nd68 [1, 1]) (k' := kj68_1  K) (by kernel_rfl) (fun st h => J68_1_ok  K st.tm st.g h) ?_
  try unfold J68_0 at h
  unfold kj68_1
  generalize @J68_1 = Q68_1 at h ⊢
  refine code2_sound ok_mono _ _ _ ?_
  refine kmp ?_ h
  generalize Ok Try.prog = C
  try unfold en68
  as_aux_lemma => kernel_rfl

noncomputable def F68 (x0 x1 x2 : LV) (g : LHeap) (K : LV → LHeap → Prop) : Prop :=
  J68_0 x0 x1 x2 g  K
theorem ok68 {x0 x1 x2 : LV} {g : LHeap} {K : LV → LHeap → Prop} (h : g.Wf → (∀ v ∈ ([x0, x1, x2] : List LV), ∀ b ∈ v.objs, b < g.next) → F68 x0 x1 x2 g K) : Ok Try.prog 68 [x0, x1, x2] g K := by
  refine ok_fw Try.mixed Try.func68 (by kernel_rfl) (by kernel_rfl) (c := nd68 []) (by kernel_rfl) fun wf lt => ?_
  rw [← en68_eq]
  replace h := h wf lt
  generalize hs : startL _ = tm
  replace h : F68 (tm 0) (tm 1) (tm 2) g K := by rw [← hs]; exact h
  refine seq_i (a := nd68 [0]) (b := nd68 [1]) (k' := kj68_0  K) (by kernel_rfl) (fun st h => J68_0_ok  K st.tm st.g h) ?_
  try unfold F68 at h
  unfold kj68_0
  generalize @J68_0 = Q68_0 at h ⊢
  refine code2_sound ok_mono _ _ _ ?_
  refine kmp ?_ h
  generalize Ok Try.prog = C
  try unfold en68
  as_aux_lemma => kernel_rfl

/-! (*parapet/tlb.hart).forget (33 slots) -/
noncomputable def en69 (K : LV → LHeap → Prop) : LEx → LSt → Prop := fun e st => match e with
  | .exit _ => False
  | _ => K (st.tm 4) st.g
theorem en69_eq (K : LV → LHeap → Prop) : en69 K = endL Try.prog Try.f69 K := by
  funext e st
  cases e <;> kernel_rfl
noncomputable def nd69 (p : List Nat) : Code := subC p (bodyC Try.prog 69)
noncomputable def F69 (x0 x1 : LV) (g : LHeap) (K : LV → LHeap → Prop) : Prop :=
  oK (newL x1 g) fun t3 g =>
  vK (nilCheckP Try.prog x0) fun t7 =>
  vK (fieldAddrL 1 t7) fun t8 =>
  vK (loadV none t8 g) fun t9 =>
  oK (builtinL Try.prog .len [78] [t9] g) fun t10 g =>
  vK (nilCheckP Try.prog x0) fun t13 =>
  vK (fieldAddrL 1 t13) fun t14 =>
  vK (loadV none t14 g) fun t15 =>
  Ok Try.prog 75 [t15, (.func (.func 76) [] [t3])] g fun t17 g =>
  vK (nilCheckP Try.prog x0) fun t18 =>
  vK (fieldAddrL 1 t18) fun t19 =>
  gK (storeV 1 t19 t17 g) fun g =>
  vK (nilCheckP Try.prog x0) fun t21 =>
  vK (fieldAddrL 0 t21) fun t22 =>
  vK (loadV none t22 g) fun t23 =>
  Ok Try.prog 77 [t23, (.func (.func 78) [] [t3])] g fun t25 g =>
  vK (nilCheckP Try.prog x0) fun t28 =>
  vK (fieldAddrL 1 t28) fun t29 =>
  vK (loadV none t29 g) fun t30 =>
  oK (builtinL Try.prog .len [78] [t30] g) fun t31 g =>
  vK (binL Try.prog .sub 3 false t10 t31) fun t32 =>
  K t32 g
theorem ok69 {x0 x1 : LV} {g : LHeap} {K : LV → LHeap → Prop} (h : g.Wf → (∀ v ∈ ([x0, x1] : List LV), ∀ b ∈ v.objs, b < g.next) → F69 x0 x1 g K) : Ok Try.prog 69 [x0, x1] g K := by
  refine ok_fw Try.mixed Try.func69 (by kernel_rfl) (by kernel_rfl) (c := nd69 []) (by kernel_rfl) fun wf lt => ?_
  rw [← en69_eq]
  replace h := h wf lt
  generalize hs : startL _ = tm
  replace h : F69 (tm 0) (tm 1) g K := by rw [← hs]; exact h
  try unfold F69 at h
  refine code2_sound ok_mono _ _ _ ?_
  refine kmp ?_ h
  generalize Ok Try.prog = C
  try unfold en69
  as_aux_lemma => kernel_rfl

/-! (*parapet/tlb.Tlb).Start (63 slots) -/
noncomputable def en70 (K : LV → LHeap → Prop) : LEx → LSt → Prop := fun e st => match e with
  | .exit _ => False
  | _ => K (.tuple [(st.tm 6), (st.tm 7)]) st.g
theorem en70_eq (K : LV → LHeap → Prop) : en70 K = endL Try.prog Try.f70 K := by
  funext e st
  cases e <;> kernel_rfl
noncomputable def nd70 (p : List Nat) : Code := subC p (bodyC Try.prog 70)
noncomputable def J70_6 (x0 : LV) (g : LHeap)  (K : LV → LHeap → Prop) : Prop :=
  vK (nilCheckP Try.prog x0) fun t60 =>
  vK (fieldAddrL 2 t60) fun t61 =>
  vK (loadV none t61 g) fun t62 =>
  K (.tuple [t62, (.int .i64 (0))]) g
abbrev kj70_6  (K : LV → LHeap → Prop) : LSt → Prop := fun st => J70_6 (st.tm 0) st.g  K
theorem J70_6_ok  (K : LV → LHeap → Prop) (tm : Nat → LV) (g : LHeap) (h : J70_6 (tm 0) g  K) : codeL Try.prog (Ok Try.prog) (nd70 [1, 1, 1, 1, 1, 1, 1]) ⟨tm, g⟩ (en70 K) := by
  try unfold J70_6 at h
  refine code2_sound ok_mono _ _ _ ?_
  refine kmp ?_ h
  generalize Ok Try.prog = C
  try unfold en70
  as_aux_lemma => kernel_rfl

noncomputable def J70_5 (x0 x2 x8 : LV) (g : LHeap)  (K : LV → LHeap → Prop) : Prop :=
  oK (builtinL Try.prog .len [22] [x2] g) fun t48 g =>
  vK (binL Try.prog .gtr 3 true t48 (.int .i64 (0))) fun t49 =>
  ifB t49 (
  vK (nilCheckP Try.prog x0) fun t51 =>
  vK (fieldAddrL 3 t51) fun t52 =>
  vK (loadV none t52 g) fun t53 =>
  vK (nilCheckP Try.prog x0) fun t55 =>
  vK (fieldAddrL 2 t55) fun t56 =>
  vK (loadV none t56 g) fun t57 =>
  vK (loadV (some 9) x8 g) fun t58 =>
  ((gK (mapSetL Try.prog 74 t53 t57 t58 g) fun g =>
  
  J70_6 x0 g  K) ∧ True)) (
  J70_6 x0 g  K)
abbrev kj70_5  (K : LV → LHeap → Prop) : LSt → Prop := fun st => J70_5 (st.tm 0) (st.tm 2) (st.tm 8) st.g  K
theorem J70_5_ok  (K : LV → LHeap → Prop) (tm : Nat → LV) (g : LHeap) (h : J70_5 (tm 0) (tm 2) (tm 8) g  K) : codeL Try.prog (Ok Try.prog) (nd70 [1, 1, 1, 1, 1, 1]) ⟨tm, g⟩ (en70 K) := by
  refine seq_i (a := nd70 [1, 1, 1, 1, 1, 1, 0]) (b := nd70 [1, 1, 1, 1, 1, 1, 1]) (k' := kj70_6  K) (by kernel_rfl) (fun st h => J70_6_ok  K st.tm st.g h) ?_
  try unfold J70_5 at h
  unfold kj70_6
  generalize @J70_6 = Q70_6 at h ⊢
  refine code2_sound ok_mono _ _ _ ?_
  refine kmp ?_ h
  generalize Ok Try.prog = C
  try unfold en70
  as_aux_lemma => kernel_rfl

noncomputable def J70_4 (x0 x2 x8 : LV) (g : LHeap)  (K : LV → LHeap → Prop) : Prop :=
  vK (nilCheckP Try.prog x0) fun t41 =>
  vK (fieldAddrL 2 t41) fun t42 =>
  vK (loadV none t42 g) fun t43 =>
  vK (binL Try.prog .add 3 true t43 (.int .i64 (1))) fun t44 =>
  vK (nilCheckP Try.prog x0) fun t45 =>
  vK (fieldAddrL 2 t45) fun t46 =>
  gK (storeV 1 t46 t44 g) fun g =>
  J70_5 x0 x2 x8 g  K
abbrev kj70_4  (K : LV → LHeap → Prop) : LSt → Prop := fun st => J70_4 (st.tm 0) (st.tm 2) (st.tm 8) st.g  K
theorem J70_4_ok  (K : LV → LHeap → Prop) (tm : Nat → LV) (g : LHeap) (h : J70_4 (tm 0) (tm 2) (tm 8) g  K) : codeL Try.prog (Ok Try.prog) (nd70 [1, 1, 1, 1, 1]) ⟨tm, g⟩ (en70 K) := by
  refine seq_i (a := nd70 [1, 1, 1, 1, 1, 0]) (b := nd70 [1, 1, 1, 1, 1, 1]) (k' := kj70_5  K) (by kernel_rfl) (fun st h => J70_5_ok  K st.tm st.g h) ?_
  try unfold J70_4 at h
  unfold kj70_5
  generalize @J70_5 = Q70_5 at h ⊢
  refine code2_sound ok_mono _ _ _ ?_
  refine kmp ?_ h
  generalize Ok Try.prog = C
  try unfold en70
  as_aux_lemma => kernel_rfl

noncomputable def J70_3 (x0 x2 x8 : LV) (g : LHeap)  (K : LV → LHeap → Prop) : Prop :=
  vK (nilCheckP Try.prog x0) fun t36 =>
  vK (fieldAddrL 2 t36) fun t37 =>
  vK (loadV none t37 g) fun t38 =>
  vK (binL Try.prog .geq 3 true t38 (.int .i64 (2147483647))) fun t39 =>
  ifB t39 (
  K (.tuple [(.int .i64 (0)), (.int .i64 (2))]) g) (
  J70_4 x0 x2 x8 g  K)
abbrev kj70_3  (K : LV → LHeap → Prop) : LSt → Prop := fun st => J70_3 (st.tm 0) (st.tm 2) (st.tm 8) st.g  K
theorem J70_3_ok  (K : LV → LHeap → Prop) (tm : Nat → LV) (g : LHeap) (h : J70_3 (tm 0) (tm 2) (tm 8) g  K) : codeL Try.prog (Ok Try.prog) (nd70 [1, 1, 1, 1]) ⟨tm, g⟩ (en70 K) := by
  refine seq_i (a := nd70 [1, 1, 1, 1, 0]) (b := nd70 [1, 1, 1, 1, 1]) (k' := kj70_4  K) (by kernel_rfl) (fun st h => J70_4_ok  K st.tm st.g h) ?_
  try unfold J70_3 at h
  unfold kj70_4
  generalize @J70_4 = Q70_4 at h ⊢
  refine code2_sound ok_mono _ _ _ ?_
  refine kmp ?_ h
  generalize Ok Try.prog = C
  try unfold en70
  as_aux_lemma => kernel_rfl

noncomputable def L70_8 (x0 x2 x8 x15 x16 : LV) (x17 : LV) (g : LHeap) (N8 : LV → LHeap → Prop) (K : LV → LHeap → Prop) : Prop :=
  vK (binL Try.prog .lss 3 false x17 x16) fun t18 =>
  ifB t18 (
  vK (ixAddrL none 1 x15 x17) fun t19 =>
  vK (loadV none t19 g) fun t20 =>
  Ok Try.prog 43 [x0, t20] g fun t23 g =>
  vK (unL .not t23) fun t24 =>
  gd t24 false g (fun K => K t20 g) fun t26 g =>
  gd t24 false g (fun K => vK (fieldAddrL 1 x8) fun v => K v g) fun t27 g =>
  gd t24 false g (fun K => vK (ixAddrL (some 8) 1 t27 t26) fun v => K v g) fun t28 g =>
  gd t24 false g (fun K => vK (loadV none t28 g) fun v => K v g) fun t29 g =>
  vK (pickL t24 (.bool true) t29) fun t30 =>
  ifB t30 (
  K (.tuple [(.int .i64 (0)), (.int .i64 (1))]) g) (
  vK (fieldAddrL 1 x8) fun t32 =>
  vK (ixAddrL (some 8) 1 t32 t20) fun t33 =>
  gK (storeV 1 t33 (.bool true) g) fun g =>
  vK (binL Try.prog .add 3 true x17 (.int .i64 (1))) fun t34 =>
  N8 t34 g)) (
  J70_3 x0 x2 x8 g  K)
theorem L70_8_ok (R8 : LV × LV × LV × LV × LV → LV → LHeap → Prop) (K : LV → LHeap → Prop) (tm : Nat → LV) (g : LHeap) (h : L70_8 (tm 0) (tm 2) (tm 8) (tm 15) (tm 16) (tm 17) g (fun s g => R8 ((tm 0), (tm 2), (tm 8), (tm 15), (tm 16)) s g) K) : codeL Try.prog (Ok Try.prog) (nd70 [1, 1, 1, 0, 1, 0, 0]) ⟨tm, g⟩ (roundK (fun tm : Nat → LV => (tm 0, tm 2, tm 8, tm 15, tm 16)) (fun tm : Nat → LV => tm 17) R8 (exitL 0 (thenL (kj70_3  K) (en70 K)))) := by
  try unfold L70_8 at h
  unfold kj70_3
  generalize @J70_3 = Q70_3 at h ⊢
  refine code2_sound ok_mono _ _ _ ?_
  refine kmp ?_ h
  generalize Ok Try.prog = C
  try unfold en70
  as_aux_lemma => kernel_rfl

noncomputable def J70_7 (x0 x2 x8 x15 x16 x17 : LV) (g : LHeap)  (K : LV → LHeap → Prop) : Prop :=
  loopP (fun s g N => L70_8 x0 x2 x8 x15 x16 s g N  K) x17 g
abbrev kj70_7  (K : LV → LHeap → Prop) : LSt → Prop := fun st => J70_7 (st.tm 0) (st.tm 2) (st.tm 8) (st.tm 15) (st.tm 16) (st.tm 17) st.g  K
theorem J70_7_ok  (K : LV → LHeap → Prop) (tm : Nat → LV) (g : LHeap) (h : J70_7 (tm 0) (tm 2) (tm 8) (tm 15) (tm 16) (tm 17) g  K) : codeL Try.prog (Ok Try.prog) (nd70 [1, 1, 1, 0, 1]) ⟨tm, g⟩ (thenL (kj70_3  K) (en70 K)) := by
  refine block_i (b := nd70 [1, 1, 1, 0, 1, 0]) (i := 0) (by kernel_rfl) ?_
  exact loop_glue (b := nd70 [1, 1, 1, 0, 1, 0, 0]) (by kernel_rfl) (fun tm : Nat → LV => (tm 0, tm 2, tm 8, tm 15, tm 16)) (fun tm : Nat → LV => tm 17) (fun a s g N => L70_8 a.1 a.2.1 a.2.2.1 a.2.2.2.1 a.2.2.2.2 s g N  K) (fun tm g R h => L70_8_ok R  K tm g h) tm g h

noncomputable def J70_2 (x0 x2 x8 : LV) (g : LHeap)  (K : LV → LHeap → Prop) : Prop :=
  oK (builtinL Try.prog .len [22] [x2] g) fun t16 g =>
  J70_7 x0 x2 x8 x2 t16 (.int .i64 (0)) g  K
abbrev kj70_2  (K : LV → LHeap → Prop) : LSt → Prop := fun st => J70_2 (st.tm 0) (st.tm 2) (st.tm 8) st.g  K
theorem J70_2_ok  (K : LV → LHeap → Prop) (tm : Nat → LV) (g : LHeap) (h : J70_2 (tm 0) (tm 2) (tm 8) g  K) : codeL Try.prog (Ok Try.prog) (nd70 [1, 1, 1]) ⟨tm, g⟩ (en70 K) := by
  refine seq_i (a := nd70 [1, 1, 1, 0]) (b := nd70 [1, 1, 1, 1]) (k' := kj70_3  K) (by kernel_rfl) (fun st h => J70_3_ok  K st.tm st.g h) ?_
  refine seq_i (a := nd70 [1, 1, 1, 0, 0]) (b := nd70 [1, 1, 1, 0, 1]) (k' := kj70_7  K) (by kernel_rfl) (fun st h => J70_7_ok  K st.tm st.g h) ?_
  try unfold J70_2 at h
  unfold kj70_7
  generalize @J70_7 = Q70_7 at h ⊢
  unfold kj70_3
  generalize @J70_3 = Q70_3 at h ⊢
  refine code2_sound ok_mono _ _ _ ?_
  refine kmp ?_ h
  generalize Ok Try.prog = C
  try unfold en70
  as_aux_lemma => kernel_rfl

noncomputable def J70_1 (x0 x1 x2 : LV) (g : LHeap)  (K : LV → LHeap → Prop) : Prop :=
  vK (buildL Try.prog 133 [(0, x1)]) fun t14 =>
  oK (newL (.agg [(.int .i64 (0)), (.bool false), (.bool false), (.bool false), (.bool false), (.bool false), (.bool false), (.bool false), (.bool false)]) g) fun t8 g =>
  gK (storeV 9 t8 t14 g) fun g =>
  J70_2 x0 x2 t8 g  K
abbrev kj70_1  (K : LV → LHeap → Prop) : LSt → Prop := fun st => J70_1 (st.tm 0) (st.tm 1) (st.tm 2) st.g  K
theorem J70_1_ok  (K : LV → LHeap → Prop) (tm : Nat → LV) (g : LHeap) (h : J70_1 (tm 0) (tm 1) (tm 2) g  K) : codeL Try.prog (Ok Try.prog) (nd70 [1, 1]) ⟨tm, g⟩ (en70 K) := by
  refine seq_i (a := nd70 [1, 1, 0]) (b := nd70 [1, 1, 1]) (k' := kj70_2  K) (by kernel_rfl) (fun st h => J70_2_ok  K st.tm st.g h) ?_
  try unfold J70_1 at h
  unfold kj70_2
  generalize @J70_2 = Q70_2 at h ⊢
  refine code2_sound ok_mono _ _ _ ?_
  refine kmp ?_ h
  generalize Ok Try.prog = C
  try unfold en70
  as_aux_lemma => kernel_rfl

noncomputable def J70_0 (x0 x1 x2 : LV) (g : LHeap)  (K : LV → LHeap → Prop) : Prop :=
  vK (binL Try.prog .eql 31 true x0 .nilp) fun t12 =>
  ifB t12 (
  K (.tuple [(.int .i64 (0)), (.int .i64 (6))]) g) (
  J70_1 x0 x1 x2 g  K)
abbrev kj70_0  (K : LV → LHeap → Prop) : LSt → Prop := fun st => J70_0 (st.tm 0) (st.tm 1) (st.tm 2) st.g  K
theorem J70_0_ok  (K : LV → LHeap → Prop) (tm : Nat → LV) (g : LHeap) (h : J70_0 (tm 0) (tm 1) (tm 2) g  K) : codeL Try.prog (Ok Try.prog) (nd70 [1]) ⟨tm, g⟩ (en70 K) := by
  refine seq_i (a := nd70 [1, 0]) (b := nd70 [1, 1]) (k' := kj70_1  K) (by kernel_rfl) (fun st h => J70_1_ok  K st.tm st.g h) ?_
  try unfold J70_0 at h
  unfold kj70_1
  generalize @J70_1 = Q70_1 at h ⊢
  refine code2_sound ok_mono _ _ _ ?_
  refine kmp ?_ h
  generalize Ok Try.prog = C
  try unfold en70
  as_aux_lemma => kernel_rfl

noncomputable def F70 (x0 x1 x2 : LV) (g : LHeap) (K : LV → LHeap → Prop) : Prop :=
  J70_0 x0 x1 x2 g  K
theorem ok70 {x0 x1 x2 : LV} {g : LHeap} {K : LV → LHeap → Prop} (h : g.Wf → (∀ v ∈ ([x0, x1, x2] : List LV), ∀ b ∈ v.objs, b < g.next) → F70 x0 x1 x2 g K) : Ok Try.prog 70 [x0, x1, x2] g K := by
  refine ok_fw Try.mixed Try.func70 (by kernel_rfl) (by kernel_rfl) (c := nd70 []) (by kernel_rfl) fun wf lt => ?_
  rw [← en70_eq]
  replace h := h wf lt
  generalize hs : startL _ = tm
  replace h : F70 (tm 0) (tm 1) (tm 2) g K := by rw [← hs]; exact h
  refine seq_i (a := nd70 [0]) (b := nd70 [1]) (k' := kj70_0  K) (by kernel_rfl) (fun st h => J70_0_ok  K st.tm st.g h) ?_
  try unfold F70 at h
  unfold kj70_0
  generalize @J70_0 = Q70_0 at h ⊢
  refine code2_sound ok_mono _ _ _ ?_
  refine kmp ?_ h
  generalize Ok Try.prog = C
  try unfold en70
  as_aux_lemma => kernel_rfl

/-! (*parapet/phys.Mem).word (18 slots) -/
noncomputable def en73 (K : LV → LHeap → Prop) : LEx → LSt → Prop := fun e st => match e with
  | .exit _ => False
  | _ => K (.tuple [(st.tm 4), (st.tm 5)]) st.g
theorem en73_eq (K : LV → LHeap → Prop) : en73 K = endL Try.prog Try.f73 K := by
  funext e st
  cases e <;> kernel_rfl
noncomputable def nd73 (p : List Nat) : Code := subC p (bodyC Try.prog 73)
noncomputable def F73 (x0 x1 : LV) (g : LHeap) (K : LV → LHeap → Prop) : Prop :=
  vK (binL Try.prog .neq 29 true x0 .nilp) fun t7 =>
  gd t7 true g (fun K => K x1 g) fun t9 g =>
  gd t7 true g (fun K => vK (binL Try.prog .rem 3 true t9 (.int .i64 (4))) fun v => K v g) fun t10 g =>
  gd t7 true g (fun K => vK (binL Try.prog .neq 3 true t10 (.int .i64 (0))) fun v => K v g) fun t11 g =>
  vK (pickL t7 t11 (.bool false)) fun t12 =>
  ifB t12 (
  K (.tuple [.nils, (.int .i64 (10))]) g) (
  Ok Try.prog 60 [x0, x1, (.int .i64 (4))] g fun t15 g =>
  vK (extractL t15 0) fun t16 =>
  vK (extractL t15 1) fun t17 =>
  K (.tuple [t16, t17]) g)
theorem ok73 {x0 x1 : LV} {g : LHeap} {K : LV → LHeap → Prop} (h : g.Wf → (∀ v ∈ ([x0, x1] : List LV), ∀ b ∈ v.objs, b < g.next) → F73 x0 x1 g K) : Ok Try.prog 73 [x0, x1] g K := by
  refine ok_fw Try.mixed Try.func73 (by kernel_rfl) (by kernel_rfl) (c := nd73 []) (by kernel_rfl) fun wf lt => ?_
  rw [← en73_eq]
  replace h := h wf lt
  generalize hs : startL _ = tm
  replace h : F73 (tm 0) (tm 1) g K := by rw [← hs]; exact h
  try unfold F73 at h
  refine code2_sound ok_mono _ _ _ ?_
  refine kmp ?_ h
  generalize Ok Try.prog = C
  try unfold en73
  as_aux_lemma => kernel_rfl

/-! slices.DeleteFunc[[]parapet/api.Key,parapet/api.Key] (42 slots) -/
noncomputable def en75 (K : LV → LHeap → Prop) : LEx → LSt → Prop := fun e st => match e with
  | .exit _ => False
  | _ => K (st.tm 4) st.g
theorem en75_eq (K : LV → LHeap → Prop) : en75 K = endL Try.prog Try.f75 K := by
  funext e st
  cases e <;> kernel_rfl
noncomputable def nd75 (p : List Nat) : Code := subC p (bodyC Try.prog 75)
noncomputable def J75_3 (x0 x5 : LV) (g : LHeap)  (K : LV → LHeap → Prop) : Prop :=
  vK (cutT Try.prog 78 x0 (some x5) none none (limL x0 g)) fun t38 =>
  oK (builtinL Try.prog .clear [78] [t38] g) fun u g =>
  vK (cutT Try.prog 78 x0 none (some x5) none (limL x0 g)) fun t41 =>
  K t41 g
abbrev kj75_3  (K : LV → LHeap → Prop) : LSt → Prop := fun st => J75_3 (st.tm 0) (st.tm 5) st.g  K
theorem J75_3_ok  (K : LV → LHeap → Prop) (tm : Nat → LV) (g : LHeap) (h : J75_3 (tm 0) (tm 5) g  K) : codeL Try.prog (Ok Try.prog) (nd75 [1, 1, 1, 1]) ⟨tm, g⟩ (en75 K) := by
  try unfold J75_3 at h
  refine code2_sound ok_mono _ _ _ ?_
  refine kmp ?_ h
  generalize Ok Try.prog = C
  try unfold en75
  as_aux_lemma => kernel_rfl

noncomputable def L75_5 (x0 x1 : LV) (x5 x6 : LV) (g : LHeap) (N5 : LV × LV → LHeap → Prop) (K : LV → LHeap → Prop) : Prop :=
  oK (builtinL Try.prog .len [78] [x0] g) fun t18 g =>
  vK (binL Try.prog .lss 3 false x6 t18) fun t19 =>
  ifB t19 (
  vK (ixAddrL none 2 x0 x6) fun t24 =>
  vK (loadV (some 2) t24 g) fun t25 =>
  oK (newL (.agg [(.int .i64 (0)), (.int .i64 (0))]) g) fun t7 g =>
  gK (storeV 2 t7 t25 g) fun g =>
  vK (loadV (some 2) t7 g) fun t27 =>
  callV Try.prog (Ok Try.prog) x1 [t27] g fun t28 g =>
  vK (unL .not t28) fun t29 =>
  ifB t29 (
  vK (loadV (some 2) t7 g) fun t32 =>
  vK (ixAddrL none 2 x0 x5) fun t33 =>
  gK (storeV 2 t33 t32 g) fun g =>
  vK (binL Try.prog .add 3 true x5 (.int .i64 (1))) fun t35 =>
  vK (binL Try.prog .add 3 true x6 (.int .i64 (1))) fun t21 =>
  N5 (t35, t21) g) (
  vK (binL Try.prog .add 3 true x6 (.int .i64 (1))) fun t21 =>
  N5 (x5, t21) g)) (
  J75_3 x0 x5 g  K)
theorem L75_5_ok (R5 : LV × LV → LV × LV → LHeap → Prop) (K : LV → LHeap → Prop) (tm : Nat → LV) (g : LHeap) (h : L75_5 (tm 0) (tm 1) (tm 5) (tm 6) g (fun s g => R5 ((tm 0), (tm 1)) s g) K) : codeL Try.prog (Ok Try.prog) (nd75 [1, 1, 1, 0, 1, 0, 0]) ⟨tm, g⟩ (roundK (fun tm : Nat → LV => (tm 0, tm 1)) (fun tm : Nat → LV => (tm 5, tm 6)) R5 (exitL 0 (thenL (kj75_3  K) (en75 K)))) := by
  try unfold L75_5 at h
  unfold kj75_3
  generalize @J75_3 = Q75_3 at h ⊢
  refine code2_sound ok_mono _ _ _ ?_
  refine kmp ?_ h
  generalize Ok Try.prog = C
  try unfold en75
  as_aux_lemma => kernel_rfl

noncomputable def J75_4 (x0 x1 x5 x6 : LV) (g : LHeap)  (K : LV → LHeap → Prop) : Prop :=
  loopP (fun s g N => L75_5 x0 x1 s.1 s.2 g N  K) (x5, x6) g
abbrev kj75_4  (K : LV → LHeap → Prop) : LSt → Prop := fun st => J75_4 (st.tm 0) (st.tm 1) (st.tm 5) (st.tm 6) st.g  K
theorem J75_4_ok  (K : LV → LHeap → Prop) (tm : Nat → LV) (g : LHeap) (h : J75_4 (tm 0) (tm 1) (tm 5) (tm 6) g  K) : codeL Try.prog (Ok Try.prog) (nd75 [1, 1, 1, 0, 1]) ⟨tm, g⟩ (thenL (kj75_3  K) (en75 K)) := by
  refine block_i (b := nd75 [1, 1, 1, 0, 1, 0]) (i := 0) (by kernel_rfl) ?_
  exact loop_glue (b := nd75 [1, 1, 1, 0, 1, 0, 0]) (by kernel_rfl) (fun tm : Nat → LV => (tm 0, tm 1)) (fun tm : Nat → LV => (tm 5, tm 6)) (fun a s g N => L75_5 a.1 a.2 s.1 s.2 g N  K) (fun tm g R h => L75_5_ok R  K tm g h) tm g h

noncomputable def J75_2 (x0 x1 x5 : LV) (g : LHeap)  (K : LV → LHeap → Prop) : Prop :=
  vK (binL Try.prog .add 3 true x5 (.int .i64 (1))) fun t15 =>
  J75_4 x0 x1 x5 t15 g  K
abbrev kj75_2  (K : LV → LHeap → Prop) : LSt → Prop := fun st => J75_2 (st.tm 0) (st.tm 1) (st.tm 5) st.g  K
theorem J75_2_ok  (K : LV → LHeap → Prop) (tm : Nat → LV) (g : LHeap) (h : J75_2 (tm 0) (tm 1) (tm 5) g  K) : codeL Try.prog (Ok Try.prog) (nd75 [1, 1, 1]) ⟨tm, g⟩ (en75 K) := by
  refine seq_i (a := nd75 [1, 1, 1, 0]) (b := nd75 [1, 1, 1, 1]) (k' := kj75_3  K) (by kernel_rfl) (fun st h => J75_3_ok  K st.tm st.g h) ?_
  refine seq_i (a := nd75 [1, 1, 1, 0, 0]) (b := nd75 [1, 1, 1, 0, 1]) (k' := kj75_4  K) (by kernel_rfl) (fun st h => J75_4_ok  K st.tm st.g h) ?_
  try unfold J75_2 at h
  unfold kj75_4
  generalize @J75_4 = Q75_4 at h ⊢
  unfold kj75_3
  generalize @J75_3 = Q75_3 at h ⊢
  refine code2_sound ok_mono _ _ _ ?_
  refine kmp ?_ h
  generalize Ok Try.prog = C
  try unfold en75
  as_aux_lemma => kernel_rfl

noncomputable def J75_1 (x0 x1 x5 : LV) (g : LHeap)  (K : LV → LHeap → Prop) : Prop :=
  vK (binL Try.prog .eql 3 true x5 (.int .i64 (-1))) fun t12 =>
  ifB t12 (
  K x0 g) (
  J75_2 x0 x1 x5 g  K)
abbrev kj75_1  (K : LV → LHeap → Prop) : LSt → Prop := fun st => J75_1 (st.tm 0) (st.tm 1) (st.tm 5) st.g  K
theorem J75_1_ok  (K : LV → LHeap → Prop) (tm : Nat → LV) (g : LHeap) (h : J75_1 (tm 0) (tm 1) (tm 5) g  K) : codeL Try.prog (Ok Try.prog) (nd75 [1, 1]) ⟨tm, g⟩ (en75 K) := by
  refine seq_i (a := nd75 [1, 1, 0]) (b := nd75 [1, 1, 1]) (k' := kj75_2  K) (by kernel_rfl) (fun st h => J75_2_ok  K st.tm st.g h) ?_
  try unfold J75_1 at h
  unfold kj75_2
  generalize @J75_2 = Q75_2 at h ⊢
  refine code2_sound ok_mono _ _ _ ?_
  refine kmp ?_ h
  generalize Ok Try.prog = C
  try unfold en75
  as_aux_lemma => kernel_rfl

noncomputable def J75_0 (x0 x1 : LV) (g : LHeap)  (K : LV → LHeap → Prop) : Prop :=
  Ok Try.prog 81 [x0, x1] g fun t10 g =>
  J75_1 x0 x1 t10 g  K
abbrev kj75_0  (K : LV → LHeap → Prop) : LSt → Prop := fun st => J75_0 (st.tm 0) (st.tm 1) st.g  K
theorem J75_0_ok  (K : LV → LHeap → Prop) (tm : Nat → LV) (g : LHeap) (h : J75_0 (tm 0) (tm 1) g  K) : codeL Try.prog (Ok Try.prog) (nd75 [1]) ⟨tm, g⟩ (en75 K) := by
  refine seq_i (a := nd75 [1, 0]) (b := nd75 [1, 1]) (k' := kj75_1  K) (by kernel_rfl) (fun st h => J75_1_ok  K st.tm st.g h) ?_
  try unfold J75_0 at h
  unfold kj75_1
  generalize @J75_1 = Q75_1 at h ⊢
  refine code2_sound ok_mono _ _ _ ?_
  refine kmp ?_ h
  generalize Ok Try.prog = C
  try unfold en75
  as_aux_lemma => kernel_rfl

noncomputable def F75 (x0 x1 : LV) (g : LHeap) (K : LV → LHeap → Prop) : Prop :=
  J75_0 x0 x1 g  K
theorem ok75 {x0 x1 : LV} {g : LHeap} {K : LV → LHeap → Prop} (h : g.Wf → (∀ v ∈ ([x0, x1] : List LV), ∀ b ∈ v.objs, b < g.next) → F75 x0 x1 g K) : Ok Try.prog 75 [x0, x1] g K := by
  refine ok_fw Try.mixed Try.func75 (by kernel_rfl) (by kernel_rfl) (c := nd75 []) (by kernel_rfl) fun wf lt => ?_
  rw [← en75_eq]
  replace h := h wf lt
  generalize hs : startL _ = tm
  replace h : F75 (tm 0) (tm 1) g K := by rw [← hs]; exact h
  refine seq_i (a := nd75 [0]) (b := nd75 [1]) (k' := kj75_0  K) (by kernel_rfl) (fun st h => J75_0_ok  K st.tm st.g h) ?_
  try unfold F75 at h
  unfold kj75_0
  generalize @J75_0 = Q75_0 at h ⊢
  refine code2_sound ok_mono _ _ _ ?_
  refine kmp ?_ h
  generalize Ok Try.prog = C
  try unfold en75
  as_aux_lemma => kernel_rfl

/-! (*parapet/tlb.hart).forget$1 (8 slots) -/
noncomputable def en76 (K : LV → LHeap → Prop) : LEx → LSt → Prop := fun e st => match e with
  | .exit _ => False
  | _ => K (st.tm 3) st.g
theorem en76_eq (K : LV → LHeap → Prop) : en76 K = endL Try.prog Try.f76 K := by
  funext e st
  cases e <;> kernel_rfl
noncomputable def nd76 (p : List Nat) : Code := subC p (bodyC Try.prog 76)
noncomputable def F76 (x0 x1 : LV) (g : LHeap) (K : LV → LHeap → Prop) : Prop :=
  oK (newL x0 g) fun t2 g =>
  vK (fieldAddrL 0 t2) fun t4 =>
  vK (loadV none t4 g) fun t5 =>
  vK (loadV none x1 g) fun t6 =>
  vK (binL Try.prog .eql 3 false t5 t6) fun t7 =>
  K t7 g
theorem ok76 {x0 x1 : LV} {g : LHeap} {K : LV → LHeap → Prop} (h : g.Wf → (∀ v ∈ ([x0, x1] : List LV), ∀ b ∈ v.objs, b < g.next) → F76 x0 x1 g K) : Ok Try.prog 76 [x0, x1] g K := by
  refine ok_fw Try.mixed Try.func76 (by kernel_rfl) (by kernel_rfl) (c := nd76 []) (by kernel_rfl) fun wf lt => ?_
  rw [← en76_eq]
  replace h := h wf lt
  generalize hs : startL _ = tm
  replace h : F76 (tm 0) (tm 1) g K := by rw [← hs]; exact h
  try unfold F76 at h
  refine code2_sound ok_mono _ _ _ ?_
  refine kmp ?_ h
  generalize Ok Try.prog = C
  try unfold en76
  as_aux_lemma => kernel_rfl

/-! maps.DeleteFunc[map[parapet/api.Key]uint32,parapet/api.Key,uint32] (19 slots) -/
noncomputable def en77 (K : LV → LHeap → Prop) : LEx → LSt → Prop := fun e st => match e with
  | .exit _ => False
  | _ => K (.tuple []) st.g
theorem en77_eq (K : LV → LHeap → Prop) : en77 K = endL Try.prog Try.f77 K := by
  funext e st
  cases e <;> kernel_rfl
noncomputable def nd77 (p : List Nat) : Code := subC p (bodyC Try.prog 77)
noncomputable def L77_1 (x0 x1 x7 : LV) (g : LHeap) (N1 : Unit → LHeap → Prop) (K : LV → LHeap → Prop) : Prop :=
  nextMapL x7 g fun t8 g =>
  vK (extractL t8 0) fun t9 =>
  ifB t9 (
  vK (entryL x7 g) fun t10 =>
  vK (extractL t10 0) fun t11 =>
  vK (extractL t10 1) fun t12 =>
  oK (newL (.agg [(.int .i64 (0)), (.int .i64 (0))]) g) fun t4 g =>
  gK (storeV 2 t4 t11 g) fun g =>
  vK (loadV (some 2) t4 g) fun t14 =>
  callV Try.prog (Ok Try.prog) x1 [t14, t12] g fun t16 g =>
  ifB t16 (
  vK (loadV (some 2) t4 g) fun t18 =>
  oK (builtinL Try.prog .delete [77, 86] [x0, t18] g) fun u g =>
  N1 () g) (
  N1 () g)) (
  K (.tuple []) g)
theorem L77_1_ok (R1 : LV × LV × LV → Unit → LHeap → Prop) (K : LV → LHeap → Prop) (tm : Nat → LV) (g : LHeap) (h : L77_1 (tm 0) (tm 1) (tm 7) g (fun s g => R1 ((tm 0), (tm 1), (tm 7)) s g) K) : codeL Try.prog (Ok Try.prog) (nd77 [1, 0, 0]) ⟨tm, g⟩ (roundK (fun tm : Nat → LV => (tm 0, tm 1, tm 7)) (fun tm : Nat → LV => ()) R1 (exitL 0 (en77 K))) := by
  try unfold L77_1 at h
  refine code2_sound ok_mono _ _ _ ?_
  refine kmp ?_ h
  generalize Ok Try.prog = C
  try unfold en77
  as_aux_lemma => kernel_rfl

noncomputable def J77_0 (x0 x1 x7 : LV) (g : LHeap)  (K : LV → LHeap → Prop) : Prop :=
  loopP (fun s g N => L77_1 x0 x1 x7  g N  K) () g
abbrev kj77_0  (K : LV → LHeap → Prop) : LSt → Prop := fun st => J77_0 (st.tm 0) (st.tm 1) (st.tm 7) st.g  K
theorem J77_0_ok  (K : LV → LHeap → Prop) (tm : Nat → LV) (g : LHeap) (h : J77_0 (tm 0) (tm 1) (tm 7) g  K) : codeL Try.prog (Ok Try.prog) (nd77 [1]) ⟨tm, g⟩ (en77 K) := by
  refine block_i (b := nd77 [1, 0]) (i := 0) (by kernel_rfl) ?_
  exact loop_glue (b := nd77 [1, 0, 0]) (by kernel_rfl) (fun tm : Nat → LV => (tm 0, tm 1, tm 7)) (fun tm : Nat → LV => ()) (fun a s g N => L77_1 a.1 a.2.1 a.2.2  g N  K) (fun tm g R h => L77_1_ok R  K tm g h) tm g h

noncomputable def F77 (x0 x1 : LV) (g : LHeap) (K : LV → LHeap → Prop) : Prop :=
  oK (rangeL Try.prog 77 x0 g) fun t7 g =>
  J77_0 x0 x1 t7 g  K
theorem ok77 {x0 x1 : LV} {g : LHeap} {K : LV → LHeap → Prop} (h : g.Wf → (∀ v ∈ ([x0, x1] : List LV), ∀ b ∈ v.objs, b < g.next) → F77 x0 x1 g K) : Ok Try.prog 77 [x0, x1] g K := by
  refine ok_fw Try.mixed Try.func77 (by kernel_rfl) (by kernel_rfl) (c := nd77 []) (by kernel_rfl) fun wf lt => ?_
  rw [← en77_eq]
  replace h := h wf lt
  generalize hs : startL _ = tm
  replace h : F77 (tm 0) (tm 1) g K := by rw [← hs]; exact h
  refine seq_i (a := nd77 [0]) (b := nd77 [1]) (k' := kj77_0  K) (by kernel_rfl) (fun st h => J77_0_ok  K st.tm st.g h) ?_
  try unfold F77 at h
  unfold kj77_0
  generalize @J77_0 = Q77_0 at h ⊢
  refine code2_sound ok_mono _ _ _ ?_
  refine kmp ?_ h
  generalize Ok Try.prog = C
  try unfold en77
  as_aux_lemma => kernel_rfl

/-! (*parapet/tlb.hart).forget$2 (10 slots) -/
noncomputable def en78 (K : LV → LHeap → Prop) : LEx → LSt → Prop := fun e st => match e with
  | .exit _ => False
  | _ => K (st.tm 5) st.g
theorem en78_eq (K : LV → LHeap → Prop) : en78 K = endL Try.prog Try.f78 K := by
  funext e st
  cases e <;> kernel_rfl
noncomputable def nd78 (p : List Nat) : Code := subC p (bodyC Try.prog 78)
noncomputable def F78 (x0 x1 x2 : LV) (g : LHeap) (K : LV → LHeap → Prop) : Prop :=
  oK (newL x0 g) fun t3 g =>
  vK (fieldAddrL 0 t3) fun t6 =>
  vK (loadV none t6 g) fun t7 =>
  vK (loadV none x2 g) fun t8 =>
  vK (binL Try.prog .eql 3 false t7 t8) fun t9 =>
  K t9 g
theorem ok78 {x0 x1 x2 : LV} {g : LHeap} {K : LV → LHeap → Prop} (h : g.Wf → (∀ v ∈ ([x0, x1, x2] : List LV), ∀ b ∈ v.objs, b < g.next) → F78 x0 x1 x2 g K) : Ok Try.prog 78 [x0, x1, x2] g K := by
  refine ok_fw Try.mixed Try.func78 (by kernel_rfl) (by kernel_rfl) (c := nd78 []) (by kernel_rfl) fun wf lt => ?_
  rw [← en78_eq]
  replace h := h wf lt
  generalize hs : startL _ = tm
  replace h : F78 (tm 0) (tm 1) (tm 2) g K := by rw [← hs]; exact h
  try unfold F78 at h
  refine code2_sound ok_mono _ _ _ ?_
  refine kmp ?_ h
  generalize Ok Try.prog = C
  try unfold en78
  as_aux_lemma => kernel_rfl

/-! slices.IndexFunc[[]parapet/api.Key,parapet/api.Key] (19 slots) -/
noncomputable def en81 (K : LV → LHeap → Prop) : LEx → LSt → Prop := fun e st => match e with
  | .exit _ => False
  | _ => K (st.tm 4) st.g
theorem en81_eq (K : LV → LHeap → Prop) : en81 K = endL Try.prog Try.f81 K := by
  funext e st
  cases e <;> kernel_rfl
noncomputable def nd81 (p : List Nat) : Code := subC p (bodyC Try.prog 81)
noncomputable def J81_1 (g : LHeap)  (K : LV → LHeap → Prop) : Prop :=
  K (.int .i64 (-1)) g
abbrev kj81_1  (K : LV → LHeap → Prop) : LSt → Prop := fun st => J81_1  st.g  K
theorem J81_1_ok  (K : LV → LHeap → Prop) (tm : Nat → LV) (g : LHeap) (h : J81_1  g  K) : codeL Try.prog (Ok Try.prog) (nd81 [1, 1]) ⟨tm, g⟩ (en81 K) := by
  try unfold J81_1 at h
  refine code2_sound ok_mono _ _ _ ?_
  refine kmp ?_ h
  generalize Ok Try.prog = C
  try unfold en81
  as_aux_lemma => kernel_rfl

noncomputable def L81_3 (x0 x1 x7 : LV) (x8 : LV) (g : LHeap) (N3 : LV → LHeap → Prop) (K : LV → LHeap → Prop) : Prop :=
  vK (binL Try.prog .lss 3 false x8 x7) fun t9 =>
  ifB t9 (
  vK (ixAddrL none 2 x0 x8) fun t14 =>
  vK (loadV (some 2) t14 g) fun t15 =>
  callV Try.prog (Ok Try.prog) x1 [t15] g fun t16 g =>
  ifB t16 (
  K x8 g) (
  vK (binL Try.prog .add 3 true x8 (.int .i64 (1))) fun t18 =>
  N3 t18 g)) (
  J81_1  g  K)
theorem L81_3_ok (R3 : LV × LV × LV → LV → LHeap → Prop) (K : LV → LHeap → Prop) (tm : Nat → LV) (g : LHeap) (h : L81_3 (tm 0) (tm 1) (tm 7) (tm 8) g (fun s g => R3 ((tm 0), (tm 1), (tm 7)) s g) K) : codeL Try.prog (Ok Try.prog) (nd81 [1, 0, 1, 0, 0]) ⟨tm, g⟩ (roundK (fun tm : Nat → LV => (tm 0, tm 1, tm 7)) (fun tm : Nat → LV => tm 8) R3 (exitL 0 (thenL (kj81_1  K) (en81 K)))) := by
  try unfold L81_3 at h
  unfold kj81_1
  generalize @J81_1 = Q81_1 at h ⊢
  refine code2_sound ok_mono _ _ _ ?_
  refine kmp ?_ h
  generalize Ok Try.prog = C
  try unfold en81
  as_aux_lemma => kernel_rfl

noncomputable def J81_2 (x0 x1 x7 x8 : LV) (g : LHeap)  (K : LV → LHeap → Prop) : Prop :=
  loopP (fun s g N => L81_3 x0 x1 x7 s g N  K) x8 g
abbrev kj81_2  (K : LV → LHeap → Prop) : LSt → Prop := fun st => J81_2 (st.tm 0) (st.tm 1) (st.tm 7) (st.tm 8) st.g  K
theorem J81_2_ok  (K : LV → LHeap → Prop) (tm : Nat → LV) (g : LHeap) (h : J81_2 (tm 0) (tm 1) (tm 7) (tm 8) g  K) : codeL Try.prog (Ok Try.prog) (nd81 [1, 0, 1]) ⟨tm, g⟩ (thenL (kj81_1  K) (en81 K)) := by
  refine block_i (b := nd81 [1, 0, 1, 0]) (i := 0) (by kernel_rfl) ?_
  exact loop_glue (b := nd81 [1, 0, 1, 0, 0]) (by kernel_rfl) (fun tm : Nat → LV => (tm 0, tm 1, tm 7)) (fun tm : Nat → LV => tm 8) (fun a s g N => L81_3 a.1 a.2.1 a.2.2 s g N  K) (fun tm g R h => L81_3_ok R  K tm g h) tm g h

noncomputable def J81_0 (x0 x1 : LV) (g : LHeap)  (K : LV → LHeap → Prop) : Prop :=
  oK (builtinL Try.prog .len [78] [x0] g) fun t7 g =>
  J81_2 x0 x1 t7 (.int .i64 (0)) g  K
abbrev kj81_0  (K : LV → LHeap → Prop) : LSt → Prop := fun st => J81_0 (st.tm 0) (st.tm 1) st.g  K
theorem J81_0_ok  (K : LV → LHeap → Prop) (tm : Nat → LV) (g : LHeap) (h : J81_0 (tm 0) (tm 1) g  K) : codeL Try.prog (Ok Try.prog) (nd81 [1]) ⟨tm, g⟩ (en81 K) := by
  refine seq_i (a := nd81 [1, 0]) (b := nd81 [1, 1]) (k' := kj81_1  K) (by kernel_rfl) (fun st h => J81_1_ok  K st.tm st.g h) ?_
  refine seq_i (a := nd81 [1, 0, 0]) (b := nd81 [1, 0, 1]) (k' := kj81_2  K) (by kernel_rfl) (fun st h => J81_2_ok  K st.tm st.g h) ?_
  try unfold J81_0 at h
  unfold kj81_2
  generalize @J81_2 = Q81_2 at h ⊢
  unfold kj81_1
  generalize @J81_1 = Q81_1 at h ⊢
  refine code2_sound ok_mono _ _ _ ?_
  refine kmp ?_ h
  generalize Ok Try.prog = C
  try unfold en81
  as_aux_lemma => kernel_rfl

noncomputable def F81 (x0 x1 : LV) (g : LHeap) (K : LV → LHeap → Prop) : Prop :=
  J81_0 x0 x1 g  K
theorem ok81 {x0 x1 : LV} {g : LHeap} {K : LV → LHeap → Prop} (h : g.Wf → (∀ v ∈ ([x0, x1] : List LV), ∀ b ∈ v.objs, b < g.next) → F81 x0 x1 g K) : Ok Try.prog 81 [x0, x1] g K := by
  refine ok_fw Try.mixed Try.func81 (by kernel_rfl) (by kernel_rfl) (c := nd81 []) (by kernel_rfl) fun wf lt => ?_
  rw [← en81_eq]
  replace h := h wf lt
  generalize hs : startL _ = tm
  replace h : F81 (tm 0) (tm 1) g K := by rw [← hs]; exact h
  refine seq_i (a := nd81 [0]) (b := nd81 [1]) (k' := kj81_0  K) (by kernel_rfl) (fun st h => J81_0_ok  K st.tm st.g h) ?_
  try unfold F81 at h
  unfold kj81_0
  generalize @J81_0 = Q81_0 at h ⊢
  refine code2_sound ok_mono _ _ _ ?_
  refine kmp ?_ h
  generalize Ok Try.prog = C
  try unfold en81
  as_aux_lemma => kernel_rfl

end Go.Proofs.Ytfbagndfifibiaa
