/-
  Functions of the program, as texts of named values.
-/
import Derived.Test.YtoajcekgoalhjaaBf0
set_option linter.all false
namespace Go.Proofs.Ytoajcekgoalhjaa
open Go.ChangeShapes Go.WideShapes Go.ChangeAt Go.RowKit Go.Lm
set_option maxRecDepth 1000000
set_option linter.unusedVariables false
/-! slices.IndexFunc[[]int,int] (19 slots) -/
noncomputable def en76 (K : LV → LHeap → Prop) : LEx → LSt → Prop := fun e st => match e with
  | .exit _ => False
  | _ => K (st.tm 4) st.g
theorem en76_eq (K : LV → LHeap → Prop) : en76 K = endL Try.prog Try.f76 K := by
  funext e st
  cases e <;> kernel_rfl
noncomputable def nd76 (p : List Nat) : Code := subC p (bodyC Try.prog 76)
noncomputable def J76_1 (g : LHeap)  (K : LV → LHeap → Prop) : Prop :=
  K (.int .i64 (-1)) g
abbrev kj76_1  (K : LV → LHeap → Prop) : LSt → Prop := fun st => J76_1  st.g  K
theorem J76_1_ok  (K : LV → LHeap → Prop) (tm : Nat → LV) (g : LHeap) (h : J76_1  g  K) : codeL Try.prog (Ok Try.prog) (nd76 [1, 1]) ⟨tm, g⟩ (en76 K) := by
  try unfold J76_1 at h
  refine code2_sound ok_mono _ _ _ ?_
  refine kmp ?_ h
  generalize Ok Try.prog = C
  try unfold en76
  as_aux_lemma => kernel_rfl

noncomputable def L76_3 (x0 x1 x7 : LV) (x8 : LV) (g : LHeap) (N3 : LV → LHeap → Prop) (K : LV → LHeap → Prop) : Prop :=
  vK (binL Try.prog .lss 3 false x8 x7) fun t9 =>
  ifB t9 (
  vK (ixAddrL none 1 x0 x8) fun t14 =>
  vK (loadV none t14 g) fun t15 =>
  callV Try.prog (Ok Try.prog) x1 [t15] g fun t16 g =>
  ifB t16 (
  K x8 g) (
  vK (binL Try.prog .add 3 true x8 (.int .i64 (1))) fun t18 =>
  N3 t18 g)) (
  J76_1  g  K)
theorem L76_3_ok (R3 : LV × LV × LV → LV → LHeap → Prop) (K : LV → LHeap → Prop) (tm : Nat → LV) (g : LHeap) (h : L76_3 (tm 0) (tm 1) (tm 7) (tm 8) g (fun s g => R3 ((tm 0), (tm 1), (tm 7)) s g) K) : codeL Try.prog (Ok Try.prog) (nd76 [1, 0, 1, 0, 0]) ⟨tm, g⟩ (roundK (fun tm : Nat → LV => (tm 0, tm 1, tm 7)) (fun tm : Nat → LV => tm 8) R3 (exitL 0 (thenL (kj76_1  K) (en76 K)))) := by
  try unfold L76_3 at h
  unfold kj76_1
  generalize @J76_1 = Q76_1 at h ⊢
  refine code2_sound ok_mono _ _ _ ?_
  refine kmp ?_ h
  generalize Ok Try.prog = C
  try unfold en76
  as_aux_lemma => kernel_rfl

noncomputable def J76_2 (x0 x1 x7 x8 : LV) (g : LHeap)  (K : LV → LHeap → Prop) : Prop :=
  loopP (fun s g N => L76_3 x0 x1 x7 s g N  K) x8 g
abbrev kj76_2  (K : LV → LHeap → Prop) : LSt → Prop := fun st => J76_2 (st.tm 0) (st.tm 1) (st.tm 7) (st.tm 8) st.g  K
theorem J76_2_ok  (K : LV → LHeap → Prop) (tm : Nat → LV) (g : LHeap) (h : J76_2 (tm 0) (tm 1) (tm 7) (tm 8) g  K) : codeL Try.prog (Ok Try.prog) (nd76 [1, 0, 1]) ⟨tm, g⟩ (thenL (kj76_1  K) (en76 K)) := by
  refine block_i (b := nd76 [1, 0, 1, 0]) (i := 0) (by kernel_rfl) ?_
  exact loop_glue (b := nd76 [1, 0, 1, 0, 0]) (by kernel_rfl) (fun tm : Nat → LV => (tm 0, tm 1, tm 7)) (fun tm : Nat → LV => tm 8) (fun a s g N => L76_3 a.1 a.2.1 a.2.2 s g N  K) (fun tm g R h => L76_3_ok R  K tm g h) tm g h

noncomputable def J76_0 (x0 x1 : LV) (g : LHeap)  (K : LV → LHeap → Prop) : Prop :=
  oK (builtinL Try.prog .len [50] [x0] g) fun t7 g =>
  J76_2 x0 x1 t7 (.int .i64 (0)) g  K
abbrev kj76_0  (K : LV → LHeap → Prop) : LSt → Prop := fun st => J76_0 (st.tm 0) (st.tm 1) st.g  K
theorem J76_0_ok  (K : LV → LHeap → Prop) (tm : Nat → LV) (g : LHeap) (h : J76_0 (tm 0) (tm 1) g  K) : codeL Try.prog (Ok Try.prog) (nd76 [1]) ⟨tm, g⟩ (en76 K) := by
  refine seq_i (a := nd76 [1, 0]) (b := nd76 [1, 1]) (k' := kj76_1  K) (by kernel_rfl) (fun st h => J76_1_ok  K st.tm st.g h) ?_
  refine seq_i (a := nd76 [1, 0, 0]) (b := nd76 [1, 0, 1]) (k' := kj76_2  K) (by kernel_rfl) (fun st h => J76_2_ok  K st.tm st.g h) ?_
  try unfold J76_0 at h
  unfold kj76_2
  generalize @J76_2 = Q76_2 at h ⊢
  unfold kj76_1
  generalize @J76_1 = Q76_1 at h ⊢
  refine code2_sound ok_mono _ _ _ ?_
  refine kmp ?_ h
  generalize Ok Try.prog = C
  try unfold en76
  as_aux_lemma => kernel_rfl

noncomputable def F76 (x0 x1 : LV) (g : LHeap) (K : LV → LHeap → Prop) : Prop :=
  J76_0 x0 x1 g  K
theorem ok76 {x0 x1 : LV} {g : LHeap} {K : LV → LHeap → Prop} (h : g.Wf → (∀ v ∈ ([x0, x1] : List LV), ∀ b ∈ v.objs, b < g.next) → F76 x0 x1 g K) : Ok Try.prog 76 [x0, x1] g K := by
  refine ok_fw Try.mixed Try.func76 (by kernel_rfl) (by kernel_rfl) (c := nd76 []) (by kernel_rfl) fun wf lt => ?_
  rw [← en76_eq]
  replace h := h wf lt
  generalize hs : startL _ = tm
  replace h : F76 (tm 0) (tm 1) g K := by rw [← hs]; exact h
  refine seq_i (a := nd76 [0]) (b := nd76 [1]) (k' := kj76_0  K) (by kernel_rfl) (fun st h => J76_0_ok  K st.tm st.g h) ?_
  try unfold F76 at h
  unfold kj76_0
  generalize @J76_0 = Q76_0 at h ⊢
  refine code2_sound ok_mono _ _ _ ?_
  refine kmp ?_ h
  generalize Ok Try.prog = C
  try unfold en76
  as_aux_lemma => kernel_rfl

/-! slices.IndexFunc[[]byte,byte] (19 slots) -/
noncomputable def en83 (K : LV → LHeap → Prop) : LEx → LSt → Prop := fun e st => match e with
  | .exit _ => False
  | _ => K (st.tm 4) st.g
theorem en83_eq (K : LV → LHeap → Prop) : en83 K = endL Try.prog Try.f83 K := by
  funext e st
  cases e <;> kernel_rfl
noncomputable def nd83 (p : List Nat) : Code := subC p (bodyC Try.prog 83)
noncomputable def J83_1 (g : LHeap)  (K : LV → LHeap → Prop) : Prop :=
  K (.int .i64 (-1)) g
abbrev kj83_1  (K : LV → LHeap → Prop) : LSt → Prop := fun st => J83_1  st.g  K
theorem J83_1_ok  (K : LV → LHeap → Prop) (tm : Nat → LV) (g : LHeap) (h : J83_1  g  K) : codeL Try.prog (Ok Try.prog) (nd83 [1, 1]) ⟨tm, g⟩ (en83 K) := by
  try unfold J83_1 at h
  refine code2_sound ok_mono _ _ _ ?_
  refine kmp ?_ h
  generalize Ok Try.prog = C
  try unfold en83
  as_aux_lemma => kernel_rfl

noncomputable def L83_3 (x0 x1 x7 : LV) (x8 : LV) (g : LHeap) (N3 : LV → LHeap → Prop) (K : LV → LHeap → Prop) : Prop :=
  vK (binL Try.prog .lss 3 false x8 x7) fun t9 =>
  ifB t9 (
  vK (ixAddrL none 1 x0 x8) fun t14 =>
  vK (loadV none t14 g) fun t15 =>
  callV Try.prog (Ok Try.prog) x1 [t15] g fun t16 g =>
  ifB t16 (
  K x8 g) (
  vK (binL Try.prog .add 3 true x8 (.int .i64 (1))) fun t18 =>
  N3 t18 g)) (
  J83_1  g  K)
theorem L83_3_ok (R3 : LV × LV × LV → LV → LHeap → Prop) (K : LV → LHeap → Prop) (tm : Nat → LV) (g : LHeap) (h : L83_3 (tm 0) (tm 1) (tm 7) (tm 8) g (fun s g => R3 ((tm 0), (tm 1), (tm 7)) s g) K) : codeL Try.prog (Ok Try.prog) (nd83 [1, 0, 1, 0, 0]) ⟨tm, g⟩ (roundK (fun tm : Nat → LV => (tm 0, tm 1, tm 7)) (fun tm : Nat → LV => tm 8) R3 (exitL 0 (thenL (kj83_1  K) (en83 K)))) := by
  try unfold L83_3 at h
  unfold kj83_1
  generalize @J83_1 = Q83_1 at h ⊢
  refine code2_sound ok_mono _ _ _ ?_
  refine kmp ?_ h
  generalize Ok Try.prog = C
  try unfold en83
  as_aux_lemma => kernel_rfl

noncomputable def J83_2 (x0 x1 x7 x8 : LV) (g : LHeap)  (K : LV → LHeap → Prop) : Prop :=
  loopP (fun s g N => L83_3 x0 x1 x7 s g N  K) x8 g
abbrev kj83_2  (K : LV → LHeap → Prop) : LSt → Prop := fun st => J83_2 (st.tm 0) (st.tm 1) (st.tm 7) (st.tm 8) st.g  K
theorem J83_2_ok  (K : LV → LHeap → Prop) (tm : Nat → LV) (g : LHeap) (h : J83_2 (tm 0) (tm 1) (tm 7) (tm 8) g  K) : codeL Try.prog (Ok Try.prog) (nd83 [1, 0, 1]) ⟨tm, g⟩ (thenL (kj83_1  K) (en83 K)) := by
  refine block_i (b := nd83 [1, 0, 1, 0]) (i := 0) (by kernel_rfl) ?_
  exact loop_glue (b := nd83 [1, 0, 1, 0, 0]) (by kernel_rfl) (fun tm : Nat → LV => (tm 0, tm 1, tm 7)) (fun tm : Nat → LV => tm 8) (fun a s g N => L83_3 a.1 a.2.1 a.2.2 s g N  K) (fun tm g R h => L83_3_ok R  K tm g h) tm g h

noncomputable def J83_0 (x0 x1 : LV) (g : LHeap)  (K : LV → LHeap → Prop) : Prop :=
  oK (builtinL Try.prog .len [33] [x0] g) fun t7 g =>
  J83_2 x0 x1 t7 (.int .i64 (0)) g  K
abbrev kj83_0  (K : LV → LHeap → Prop) : LSt → Prop := fun st => J83_0 (st.tm 0) (st.tm 1) st.g  K
theorem J83_0_ok  (K : LV → LHeap → Prop) (tm : Nat → LV) (g : LHeap) (h : J83_0 (tm 0) (tm 1) g  K) : codeL Try.prog (Ok Try.prog) (nd83 [1]) ⟨tm, g⟩ (en83 K) := by
  refine seq_i (a := nd83 [1, 0]) (b := nd83 [1, 1]) (k' := kj83_1  K) (by kernel_rfl) (fun st h => J83_1_ok  K st.tm st.g h) ?_
  refine seq_i (a := nd83 [1, 0, 0]) (b := nd83 [1, 0, 1]) (k' := kj83_2  K) (by kernel_rfl) (fun st h => J83_2_ok  K st.tm st.g h) ?_
  try unfold J83_0 at h
  unfold kj83_2
  generalize @J83_2 = Q83_2 at h ⊢
  unfold kj83_1
  generalize @J83_1 = Q83_1 at h ⊢
  refine code2_sound ok_mono _ _ _ ?_
  refine kmp ?_ h
  generalize Ok Try.prog = C
  try unfold en83
  as_aux_lemma => kernel_rfl

noncomputable def F83 (x0 x1 : LV) (g : LHeap) (K : LV → LHeap → Prop) : Prop :=
  J83_0 x0 x1 g  K
theorem ok83 {x0 x1 : LV} {g : LHeap} {K : LV → LHeap → Prop} (h : g.Wf → (∀ v ∈ ([x0, x1] : List LV), ∀ b ∈ v.objs, b < g.next) → F83 x0 x1 g K) : Ok Try.prog 83 [x0, x1] g K := by
  refine ok_fw Try.mixed Try.func83 (by kernel_rfl) (by kernel_rfl) (c := nd83 []) (by kernel_rfl) fun wf lt => ?_
  rw [← en83_eq]
  replace h := h wf lt
  generalize hs : startL _ = tm
  replace h : F83 (tm 0) (tm 1) g K := by rw [← hs]; exact h
  refine seq_i (a := nd83 [0]) (b := nd83 [1]) (k' := kj83_0  K) (by kernel_rfl) (fun st h => J83_0_ok  K st.tm st.g h) ?_
  try unfold F83 at h
  unfold kj83_0
  generalize @J83_0 = Q83_0 at h ⊢
  refine code2_sound ok_mono _ _ _ ?_
  refine kmp ?_ h
  generalize Ok Try.prog = C
  try unfold en83
  as_aux_lemma => kernel_rfl

end Go.Proofs.Ytoajcekgoalhjaa
