/-
  Functions of the program, as texts of named values.
-/
import Derived.Test.YtoajcekgoalhjaaBf0
set_option linter.all false
namespace Go.Proofs.Ytoajcekgoalhjaa
open Go.ChangeShapes Go.WideShapes Go.ChangeAt Go.RowKit Go.Lm
set_option maxRecDepth 1000000
set_option linter.unusedVariables false
/-! parapet/disk.New (16 slots) -/
noncomputable def en10 (K : LV → LHeap → Prop) : LEx → LSt → Prop := fun e st => match e with
  | .exit _ => False
  | _ => K (.tuple [(st.tm 2), (st.tm 3)]) st.g
theorem en10_eq (K : LV → LHeap → Prop) : en10 K = endL Try.prog Try.f10 K := by
  funext e st
  cases e <;> kernel_rfl
noncomputable def nd10 (p : List Nat) : Code := subC p (bodyC Try.prog 10)
noncomputable def F10 (x0 : LV) (g : LHeap) (K : LV → LHeap → Prop) : Prop :=
  vK (binL Try.prog .lss 3 true x0 (.int .i64 (1))) fun t5 =>
  gd t5 false g (fun K => K x0 g) fun t7 g =>
  gd t5 false g (fun K => vK (binL Try.prog .gtr 3 true t7 (.int .i64 (4096))) fun v => K v g) fun t8 g =>
  vK (pickL t5 (.bool true) t8) fun t9 =>
  ifB t9 (
  K (.tuple [.nilp, (.int .i64 (1))]) g) (
  vK (binL Try.prog .mul 3 true x0 (.int .i64 (512))) fun t11 =>
  oK (makeSliceL Try.prog 33 t11 t11 g) fun t12 g =>
  mkK (.map g.next) (g.alloc (.map [] 0 .ex)) fun t13 g =>
  vK (buildL Try.prog 88 [(0, t12), (2, t13)]) fun t14 =>
  oK (newL t14 g) fun t15 g =>
  K (.tuple [t15, (.int .i64 (0))]) g)
theorem ok10 {x0 : LV} {g : LHeap} {K : LV → LHeap → Prop} (h : g.Wf → (∀ v ∈ ([x0] : List LV), ∀ b ∈ v.objs, b < g.next) → F10 x0 g K) : Ok Try.prog 10 [x0] g K := by
  refine ok_fw Try.mixed Try.func10 (by kernel_rfl) (by kernel_rfl) (c := nd10 []) (by kernel_rfl) fun wf lt => ?_
  rw [← en10_eq]
  replace h := h wf lt
  generalize hs : startL _ = tm
  replace h : F10 (tm 0) g K := by rw [← hs]; exact h
  try unfold F10 at h
  refine code2_sound ok_mono _ _ _ ?_
  refine kmp ?_ h
  generalize Ok Try.prog = C
  unfold en10
  as_aux_lemma => kernel_rfl

/-! parapet/buf.New (21 slots) -/
noncomputable def en12 (K : LV → LHeap → Prop) : LEx → LSt → Prop := fun e st => match e with
  | .exit _ => False
  | _ => K (.tuple [(st.tm 4), (st.tm 5)]) st.g
theorem en12_eq (K : LV → LHeap → Prop) : en12 K = endL Try.prog Try.f12 K := by
  funext e st
  cases e <;> kernel_rfl
noncomputable def nd12 (p : List Nat) : Code := subC p (bodyC Try.prog 12)
noncomputable def F12 (x0 x1 : LV) (g : LHeap) (K : LV → LHeap → Prop) : Prop :=
  vK (binL Try.prog .eql 23 true x0 .nilp) fun t7 =>
  gd t7 false g (fun K => K x1 g) fun t9 g =>
  gd t7 false g (fun K => vK (binL Try.prog .lss 3 true t9 (.int .i64 (1))) fun v => K v g) fun t10 g =>
  vK (pickL t7 (.bool true) t10) fun t11 =>
  gd t11 false g (fun K => K x1 g) fun t13 g =>
  gd t11 false g (fun K => vK (binL Try.prog .gtr 3 true t13 (.int .i64 (1024))) fun v => K v g) fun t14 g =>
  vK (pickL t11 (.bool true) t14) fun t15 =>
  ifB t15 (
  K (.tuple [.nilp, (.int .i64 (1))]) g) (
  mkK (.map g.next) (g.alloc (.map [] 0 .ex)) fun t18 g =>
  vK (buildL Try.prog 91 [(0, x0), (1, x1), (2, t18)]) fun t19 =>
  oK (newL t19 g) fun t20 g =>
  K (.tuple [t20, (.int .i64 (0))]) g)
theorem ok12 {x0 x1 : LV} {g : LHeap} {K : LV → LHeap → Prop} (h : g.Wf → (∀ v ∈ ([x0, x1] : List LV), ∀ b ∈ v.objs, b < g.next) → F12 x0 x1 g K) : Ok Try.prog 12 [x0, x1] g K := by
  refine ok_fw Try.mixed Try.func12 (by kernel_rfl) (by kernel_rfl) (c := nd12 []) (by kernel_rfl) fun wf lt => ?_
  rw [← en12_eq]
  replace h := h wf lt
  generalize hs : startL _ = tm
  replace h : F12 (tm 0) (tm 1) g K := by rw [← hs]; exact h
  try unfold F12 at h
  refine code2_sound ok_mono _ _ _ ?_
  refine kmp ?_ h
  generalize Ok Try.prog = C
  unfold en12
  as_aux_lemma => kernel_rfl

/-! (*parapet/disk.Disk).Flush (45 slots) -/
noncomputable def en40 (K : LV → LHeap → Prop) : LEx → LSt → Prop := fun e st => match e with
  | .exit _ => False
  | _ => K (st.tm 2) st.g
theorem en40_eq (K : LV → LHeap → Prop) : en40 K = endL Try.prog Try.f40 K := by
  funext e st
  cases e <;> kernel_rfl
noncomputable def nd40 (p : List Nat) : Code := subC p (bodyC Try.prog 40)
noncomputable def J40_2 (x0 : LV) (g : LHeap)  (K : LV → LHeap → Prop) : Prop :=
  vK (nilCheckL x0) fun t31 =>
  vK (fieldAddrL 1 t31) fun t32 =>
  vK (loadV none t32 g) fun t33 =>
  oK (builtinL Try.prog .len [86] [t33] g) fun t34 g =>
  Ok Try.prog 74 [x0] g fun t36 g =>
  vK (nilCheckL x0) fun t38 =>
  vK (fieldAddrL 7 t38) fun t39 =>
  vK (loadV none t39 g) fun t40 =>
  vK (binL Try.prog .add 3 true t40 (.int .i64 (1))) fun t41 =>
  vK (nilCheckL x0) fun t42 =>
  vK (fieldAddrL 7 t42) fun t43 =>
  gK (storeV 1 t43 t41 g) fun g =>
  K t34 g
abbrev kj40_2  (K : LV → LHeap → Prop) : LSt → Prop := fun st => J40_2 (st.tm 0) st.g  K
theorem J40_2_ok  (K : LV → LHeap → Prop) (tm : Nat → LV) (g : LHeap) (h : J40_2 (tm 0) g  K) : codeL Try.prog (Ok Try.prog) (nd40 [1, 1, 1]) ⟨tm, g⟩ (en40 K) := by
  try unfold J40_2 at h
  refine code2_sound ok_mono _ _ _ ?_
  refine kmp ?_ h
  generalize Ok Try.prog = C
  unfold en40
  as_aux_lemma => kernel_rfl

noncomputable def L40_4 (x0 x16 x17 : LV) (x18 : LV) (g : LHeap) (N4 : LV → LHeap → Prop) (K : LV → LHeap → Prop) : Prop :=
  vK (binL Try.prog .lss 3 false x18 x17) fun t19 =>
  ifB t19 (
  vK (ixAddrL none 2 x16 x18) fun t20 =>
  vK (loadV (some 2) t20 g) fun t21 =>
  oK (newL (.agg [(.int .i64 (0)), .nils]) g) fun t4 g =>
  gK (storeV 2 t4 t21 g) fun g =>
  vK (fieldAddrL 0 t4) fun t23 =>
  vK (loadV none t23 g) fun t24 =>
  vK (fieldAddrL 1 t4) fun t26 =>
  vK (loadV none t26 g) fun t27 =>
  ((Ok Try.prog 73 [x0, t24] g fun t25 g =>
  ((loadV none t26 g) = some t27 ∧ 
  ((oK (builtinL Try.prog .copy [33, 33] [t25, t27] g) fun t28 g =>
  
  vK (binL Try.prog .add 3 true x18 (.int .i64 (1))) fun t29 =>
  N4 t29 g) ∧ True))) ∧ True)) (
  J40_2 x0 g  K)
theorem L40_4_ok (R4 : LV × LV × LV → LV → LHeap → Prop) (K : LV → LHeap → Prop) (tm : Nat → LV) (g : LHeap) (h : L40_4 (tm 0) (tm 16) (tm 17) (tm 18) g (fun s g => R4 ((tm 0), (tm 16), (tm 17)) s g) K) : codeL Try.prog (Ok Try.prog) (nd40 [1, 1, 0, 1, 0, 0]) ⟨tm, g⟩ (roundK (fun tm : Nat → LV => (tm 0, tm 16, tm 17)) (fun tm : Nat → LV => tm 18) R4 (exitL 0 (thenL (kj40_2  K) (en40 K)))) := by
  try unfold L40_4 at h
  unfold kj40_2
  generalize @J40_2 = Q40_2 at h ⊢
  refine code2_sound ok_mono _ _ _ ?_
  refine kmp ?_ h
  generalize Ok Try.prog = C
  unfold en40
  as_aux_lemma => kernel_rfl

noncomputable def J40_3 (x0 x16 x17 x18 : LV) (g : LHeap)  (K : LV → LHeap → Prop) : Prop :=
  loopP (fun s g N => L40_4 x0 x16 x17 s g N  K) x18 g
abbrev kj40_3  (K : LV → LHeap → Prop) : LSt → Prop := fun st => J40_3 (st.tm 0) (st.tm 16) (st.tm 17) (st.tm 18) st.g  K
theorem J40_3_ok  (K : LV → LHeap → Prop) (tm : Nat → LV) (g : LHeap) (h : J40_3 (tm 0) (tm 16) (tm 17) (tm 18) g  K) : codeL Try.prog (Ok Try.prog) (nd40 [1, 1, 0, 1]) ⟨tm, g⟩ (thenL (kj40_2  K) (en40 K)) := by
  refine block_i (b := nd40 [1, 1, 0, 1, 0]) (i := 0) (by kernel_rfl) ?_
  exact loop_glue (b := nd40 [1, 1, 0, 1, 0, 0]) (by kernel_rfl) (fun tm : Nat → LV => (tm 0, tm 16, tm 17)) (fun tm : Nat → LV => tm 18) (fun a s g N => L40_4 a.1 a.2.1 a.2.2 s g N  K) (fun tm g R h => L40_4_ok R  K tm g h) tm g h

noncomputable def J40_1 (x0 : LV) (g : LHeap)  (K : LV → LHeap → Prop) : Prop :=
  vK (nilCheckL x0) fun t14 =>
  vK (fieldAddrL 1 t14) fun t15 =>
  vK (loadV none t15 g) fun t16 =>
  oK (builtinL Try.prog .len [86] [t16] g) fun t17 g =>
  J40_3 x0 t16 t17 (.int .i64 (0)) g  K
abbrev kj40_1  (K : LV → LHeap → Prop) : LSt → Prop := fun st => J40_1 (st.tm 0) st.g  K
theorem J40_1_ok  (K : LV → LHeap → Prop) (tm : Nat → LV) (g : LHeap) (h : J40_1 (tm 0) g  K) : codeL Try.prog (Ok Try.prog) (nd40 [1, 1]) ⟨tm, g⟩ (en40 K) := by
  refine seq_i (a := nd40 [1, 1, 0]) (b := nd40 [1, 1, 1]) (k' := kj40_2  K) (by kernel_rfl) (fun st h => J40_2_ok  K st.tm st.g h) ?_
  refine seq_i (a := nd40 [1, 1, 0, 0]) (b := nd40 [1, 1, 0, 1]) (k' := kj40_3  K) (by kernel_rfl) (fun st h => J40_3_ok  K st.tm st.g h) ?_
  try unfold J40_1 at h
  unfold kj40_3
  generalize @J40_3 = Q40_3 at h ⊢
  unfold kj40_2
  generalize @J40_2 = Q40_2 at h ⊢
  refine code2_sound ok_mono _ _ _ ?_
  refine kmp ?_ h
  generalize Ok Try.prog = C
  unfold en40
  as_aux_lemma => kernel_rfl

noncomputable def J40_0 (x0 : LV) (g : LHeap)  (K : LV → LHeap → Prop) : Prop :=
  vK (binL Try.prog .eql 23 true x0 .nilp) fun t7 =>
  gd t7 false g (fun K => K x0 g) fun t9 g =>
  gd t7 false g (fun K => Ok Try.prog 72 [t9] g K) fun t10 g =>
  gd t7 false g (fun K => vK (unL .not t10) fun v => K v g) fun t11 g =>
  vK (pickL t7 (.bool true) t11) fun t12 =>
  ifB t12 (
  K (.int .i64 (0)) g) (
  J40_1 x0 g  K)
abbrev kj40_0  (K : LV → LHeap → Prop) : LSt → Prop := fun st => J40_0 (st.tm 0) st.g  K
theorem J40_0_ok  (K : LV → LHeap → Prop) (tm : Nat → LV) (g : LHeap) (h : J40_0 (tm 0) g  K) : codeL Try.prog (Ok Try.prog) (nd40 [1]) ⟨tm, g⟩ (en40 K) := by
  refine seq_i (a := nd40 [1, 0]) (b := nd40 [1, 1]) (k' := kj40_1  K) (by kernel_rfl) (fun st h => J40_1_ok  K st.tm st.g h) ?_
  try unfold J40_0 at h
  unfold kj40_1
  generalize @J40_1 = Q40_1 at h ⊢
  refine code2_sound ok_mono _ _ _ ?_
  refine kmp ?_ h
  generalize Ok Try.prog = C
  unfold en40
  as_aux_lemma => kernel_rfl

noncomputable def F40 (x0 : LV) (g : LHeap) (K : LV → LHeap → Prop) : Prop :=
  J40_0 x0 g  K
theorem ok40 {x0 : LV} {g : LHeap} {K : LV → LHeap → Prop} (h : g.Wf → (∀ v ∈ ([x0] : List LV), ∀ b ∈ v.objs, b < g.next) → F40 x0 g K) : Ok Try.prog 40 [x0] g K := by
  refine ok_fw Try.mixed Try.func40 (by kernel_rfl) (by kernel_rfl) (c := nd40 []) (by kernel_rfl) fun wf lt => ?_
  rw [← en40_eq]
  replace h := h wf lt
  generalize hs : startL _ = tm
  replace h : F40 (tm 0) g K := by rw [← hs]; exact h
  refine seq_i (a := nd40 [0]) (b := nd40 [1]) (k' := kj40_0  K) (by kernel_rfl) (fun st h => J40_0_ok  K st.tm st.g h) ?_
  try unfold F40 at h
  unfold kj40_0
  generalize @J40_0 = Q40_0 at h ⊢
  refine code2_sound ok_mono _ _ _ ?_
  refine kmp ?_ h
  generalize Ok Try.prog = C
  unfold en40
  as_aux_lemma => kernel_rfl

/-! (*parapet/disk.Disk).Crash (91 slots) -/
noncomputable def en41 (K : LV → LHeap → Prop) : LEx → LSt → Prop := fun e st => match e with
  | .exit _ => False
  | _ => K (st.tm 4) st.g
theorem en41_eq (K : LV → LHeap → Prop) : en41 K = endL Try.prog Try.f41 K := by
  funext e st
  cases e <;> kernel_rfl
noncomputable def nd41 (p : List Nat) : Code := subC p (bodyC Try.prog 41)
noncomputable def J41_3 (x0 : LV) (g : LHeap)  (K : LV → LHeap → Prop) : Prop :=
  Ok Try.prog 74 [x0] g fun t84 g =>
  vK (nilCheckL x0) fun t87 =>
  vK (fieldAddrL 3 t87) fun t88 =>
  gK (storeV 1 t88 (.bool false) g) fun g =>
  vK (nilCheckL x0) fun t89 =>
  vK (fieldAddrL 4 t89) fun t90 =>
  gK (storeV 1 t90 (.int .i64 (0)) g) fun g =>
  K (.int .i64 (0)) g
abbrev kj41_3  (K : LV → LHeap → Prop) : LSt → Prop := fun st => J41_3 (st.tm 0) st.g  K
theorem J41_3_ok  (K : LV → LHeap → Prop) (tm : Nat → LV) (g : LHeap) (h : J41_3 (tm 0) g  K) : codeL Try.prog (Ok Try.prog) (nd41 [1, 1, 1, 1]) ⟨tm, g⟩ (en41 K) := by
  try unfold J41_3 at h
  refine code2_sound ok_mono _ _ _ ?_
  refine kmp ?_ h
  generalize Ok Try.prog = C
  unfold en41
  as_aux_lemma => kernel_rfl

noncomputable def L41_5 (x0 x58 x59 : LV) (x60 : LV) (g : LHeap) (N5 : LV → LHeap → Prop) (K : LV → LHeap → Prop) : Prop :=
  vK (binL Try.prog .lss 3 false x60 x59) fun t61 =>
  ifB t61 (
  vK (ixAddrL none 2 x58 x60) fun t62 =>
  vK (loadV (some 2) t62 g) fun t63 =>
  oK (newL (.agg [(.int .i64 (0)), (.int .i64 (0))]) g) fun t8 g =>
  gK (storeV 2 t8 t63 g) fun g =>
  vK (nilCheckL x0) fun t65 =>
  vK (fieldAddrL 1 t65) fun t66 =>
  vK (loadV none t66 g) fun t67 =>
  vK (fieldAddrL 0 t8) fun t68 =>
  vK (loadV none t68 g) fun t69 =>
  vK (ixAddrL none 2 t67 t69) fun t70 =>
  vK (loadV (some 2) t70 g) fun t71 =>
  ((oK (newL (.agg [(.int .i64 (0)), .nils]) g) fun t9 g =>
  ((loadV (some 2) t70 g) = some t71 ∧ ((loadV none t68 g) = some t69 ∧ ((loadV none t66 g) = some t67 ∧ 
  ((gK (storeV 2 t9 t71 g) fun g =>
  
  vK (fieldAddrL 0 t9) fun t73 =>
  vK (loadV none t73 g) fun t74 =>
  vK (fieldAddrL 1 t9) fun t76 =>
  vK (loadV none t76 g) fun t77 =>
  vK (fieldAddrL 1 t8) fun t78 =>
  vK (loadV none t78 g) fun t79 =>
  vK (cutT Try.prog 33 t77 none (some t79) none (limL t77 g)) fun t80 =>
  ((Ok Try.prog 73 [x0, t74] g fun t75 g =>
  ((loadV none t78 g) = some t79 ∧ ((loadV none t76 g) = some t77 ∧ 
  ((oK (builtinL Try.prog .copy [33, 33] [t75, t80] g) fun t81 g =>
  
  vK (binL Try.prog .add 3 true x60 (.int .i64 (1))) fun t82 =>
  N5 t82 g) ∧ True)))) ∧ True)) ∧ True))))) ∧ True)) (
  J41_3 x0 g  K)
theorem L41_5_ok (R5 : LV × LV × LV → LV → LHeap → Prop) (K : LV → LHeap → Prop) (tm : Nat → LV) (g : LHeap) (h : L41_5 (tm 0) (tm 58) (tm 59) (tm 60) g (fun s g => R5 ((tm 0), (tm 58), (tm 59)) s g) K) : codeL Try.prog (Ok Try.prog) (nd41 [1, 1, 1, 0, 1, 0, 0]) ⟨tm, g⟩ (roundK (fun tm : Nat → LV => (tm 0, tm 58, tm 59)) (fun tm : Nat → LV => tm 60) R5 (exitL 2 (thenL (kj41_3  K) (en41 K)))) := by
  try unfold L41_5 at h
  unfold kj41_3
  generalize @J41_3 = Q41_3 at h ⊢
  refine code2_sound ok_mono _ _ _ ?_
  refine kmp ?_ h
  generalize Ok Try.prog = C
  unfold en41
  as_aux_lemma => kernel_rfl

noncomputable def J41_4 (x0 x58 x59 x60 : LV) (g : LHeap)  (K : LV → LHeap → Prop) : Prop :=
  loopP (fun s g N => L41_5 x0 x58 x59 s g N  K) x60 g
abbrev kj41_4  (K : LV → LHeap → Prop) : LSt → Prop := fun st => J41_4 (st.tm 0) (st.tm 58) (st.tm 59) (st.tm 60) st.g  K
theorem J41_4_ok  (K : LV → LHeap → Prop) (tm : Nat → LV) (g : LHeap) (h : J41_4 (tm 0) (tm 58) (tm 59) (tm 60) g  K) : codeL Try.prog (Ok Try.prog) (nd41 [1, 1, 1, 0, 1]) ⟨tm, g⟩ (thenL (kj41_3  K) (en41 K)) := by
  refine block_i (b := nd41 [1, 1, 1, 0, 1, 0]) (i := 2) (by kernel_rfl) ?_
  exact loop_glue (b := nd41 [1, 1, 1, 0, 1, 0, 0]) (by kernel_rfl) (fun tm : Nat → LV => (tm 0, tm 58, tm 59)) (fun tm : Nat → LV => tm 60) (fun a s g N => L41_5 a.1 a.2.1 a.2.2 s g N  K) (fun tm g R h => L41_5_ok R  K tm g h) tm g h

noncomputable def J41_2 (x0 x1 : LV) (g : LHeap)  (K : LV → LHeap → Prop) : Prop :=
  oK (builtinL Try.prog .len [115] [x1] g) fun t59 g =>
  J41_4 x0 x1 t59 (.int .i64 (0)) g  K
abbrev kj41_2  (K : LV → LHeap → Prop) : LSt → Prop := fun st => J41_2 (st.tm 0) (st.tm 1) st.g  K
theorem J41_2_ok  (K : LV → LHeap → Prop) (tm : Nat → LV) (g : LHeap) (h : J41_2 (tm 0) (tm 1) g  K) : codeL Try.prog (Ok Try.prog) (nd41 [1, 1, 1]) ⟨tm, g⟩ (en41 K) := by
  refine seq_i (a := nd41 [1, 1, 1, 0]) (b := nd41 [1, 1, 1, 1]) (k' := kj41_3  K) (by kernel_rfl) (fun st h => J41_3_ok  K st.tm st.g h) ?_
  refine seq_i (a := nd41 [1, 1, 1, 0, 0]) (b := nd41 [1, 1, 1, 0, 1]) (k' := kj41_4  K) (by kernel_rfl) (fun st h => J41_4_ok  K st.tm st.g h) ?_
  try unfold J41_2 at h
  unfold kj41_4
  generalize @J41_4 = Q41_4 at h ⊢
  unfold kj41_3
  generalize @J41_3 = Q41_3 at h ⊢
  refine code2_sound ok_mono _ _ _ ?_
  refine kmp ?_ h
  generalize Ok Try.prog = C
  unfold en41
  as_aux_lemma => kernel_rfl

noncomputable def L41_7 (x0 x1 x12 x13 : LV) (x14 : LV) (g : LHeap) (N7 : LV → LHeap → Prop) (K : LV → LHeap → Prop) : Prop :=
  vK (binL Try.prog .lss 3 false x14 x13) fun t15 =>
  ifB t15 (
  vK (ixAddrL none 2 x12 x14) fun t17 =>
  vK (loadV (some 2) t17 g) fun t18 =>
  oK (newL (.agg [(.int .i64 (0)), (.int .i64 (0))]) g) fun t6 g =>
  gK (storeV 2 t6 t18 g) fun g =>
  vK (fieldAddrL 0 t6) fun t19 =>
  vK (loadV none t19 g) fun t20 =>
  vK (binL Try.prog .lss 3 true t20 (.int .i64 (0))) fun t21 =>
  gdV t21 false (fieldAddrL 0 t6) fun t23 =>
  gdV t21 false (loadV none t23 g) fun t24 =>
  gdV t21 false (some x0) fun t25 =>
  gdV t21 false (nilCheckL t25) fun t26 =>
  gdV t21 false (fieldAddrL 1 t26) fun t27 =>
  gdV t21 false (loadV none t27 g) fun t28 =>
  gdV t21 false (lenL Try.prog 86 t28 g) fun t29 =>
  gdV t21 false (binL Try.prog .geq 3 false t24 t29) fun t30 =>
  vK (pickL t21 (.bool true) t30) fun t31 =>
  gdV t31 false (some x14) fun t33 =>
  gdV t31 false (binL Try.prog .gtr 3 true t33 (.int .i64 (0))) fun t34 =>
  gdV t31 false (some t34) fun t35 =>
  gdV t35 true (fieldAddrL 0 t6) fun t36 =>
  gdV t35 true (loadV none t36 g) fun t37 =>
  gdV t35 true (some x1) fun t38 =>
  gdV t35 true (some x14) fun t39 =>
  gdV t35 true (binL Try.prog .sub 3 true t39 (.int .i64 (1))) fun t40 =>
  gdV t35 true (ixAddrL none 2 t38 t40) fun t41 =>
  gdV t35 true (fieldAddrL 0 t41) fun t42 =>
  gdV t35 true (loadV none t42 g) fun t43 =>
  gdV t35 true (binL Try.prog .leq 3 false t37 t43) fun t44 =>
  gdV t31 false (pickL t35 t44 (.bool false)) fun t45 =>
  vK (pickL t31 (.bool true) t45) fun t46 =>
  gdV t46 false (fieldAddrL 1 t6) fun t48 =>
  gdV t46 false (loadV none t48 g) fun t49 =>
  gdV t46 false (binL Try.prog .lss 3 true t49 (.int .i64 (1))) fun t50 =>
  vK (pickL t46 (.bool true) t50) fun t51 =>
  gdV t51 false (fieldAddrL 1 t6) fun t53 =>
  gdV t51 false (loadV none t53 g) fun t54 =>
  gdV t51 false (binL Try.prog .gtr 3 true t54 (.int .i64 (512))) fun t55 =>
  vK (pickL t51 (.bool true) t55) fun t56 =>
  ifB t56 (
  K (.int .i64 (1)) g) (
  vK (binL Try.prog .add 3 true x14 (.int .i64 (1))) fun t57 =>
  N7 t57 g)) (
  J41_2 x0 x1 g  K)
theorem L41_7_ok (R7 : LV × LV × LV × LV → LV → LHeap → Prop) (K : LV → LHeap → Prop) (tm : Nat → LV) (g : LHeap) (h : L41_7 (tm 0) (tm 1) (tm 12) (tm 13) (tm 14) g (fun s g => R7 ((tm 0), (tm 1), (tm 12), (tm 13)) s g) K) : codeL Try.prog (Ok Try.prog) (nd41 [1, 1, 0, 1, 0, 0]) ⟨tm, g⟩ (roundK (fun tm : Nat → LV => (tm 0, tm 1, tm 12, tm 13)) (fun tm : Nat → LV => tm 14) R7 (exitL 0 (thenL (kj41_2  K) (en41 K)))) := by
  try unfold L41_7 at h
  unfold kj41_2
  generalize @J41_2 = Q41_2 at h ⊢
  refine code3_sound ok_mono (pl := [(6, (.lt 0 false (.lt 1 false (.lt 2 false (.lt 3 false (.lt 4 false (.lt 5 false (.lt 6 false (.lt 7 false (.lt 8 false (.lt 9 false (.lt 10 false (.lt 11 false (.lt 12 false (.lt 13 false (.lt 14 false (.lt 15 false (.lt 16 false (.lt 17 false (.lt 18 false (.lt 19 false (.lt 20 false (.lt 21 false (.lt 22 false (.lt 23 false (.lt 24 false (.lt 25 false (.lt 26 false (.lt 27 false (.lt 28 false (.lt 29 false (.lt 30 false (.lt 31 false (.lt 32 false (.lt 33 false (.lt 34 false (.lt 35 false (.lt 36 false (.lt 37 false .nil)))))))))))))))))))))))))))))))))))))))]) _ _ _ (by kernel_rfl) ?_
  refine kmp ?_ h
  generalize Ok Try.prog = C
  unfold en41
  as_aux_lemma => kernel_rfl

noncomputable def J41_6 (x0 x1 x12 x13 x14 : LV) (g : LHeap)  (K : LV → LHeap → Prop) : Prop :=
  loopP (fun s g N => L41_7 x0 x1 x12 x13 s g N  K) x14 g
abbrev kj41_6  (K : LV → LHeap → Prop) : LSt → Prop := fun st => J41_6 (st.tm 0) (st.tm 1) (st.tm 12) (st.tm 13) (st.tm 14) st.g  K
theorem J41_6_ok  (K : LV → LHeap → Prop) (tm : Nat → LV) (g : LHeap) (h : J41_6 (tm 0) (tm 1) (tm 12) (tm 13) (tm 14) g  K) : codeL Try.prog (Ok Try.prog) (nd41 [1, 1, 0, 1]) ⟨tm, g⟩ (thenL (kj41_2  K) (en41 K)) := by
  refine block_i (b := nd41 [1, 1, 0, 1, 0]) (i := 0) (by kernel_rfl) ?_
  exact loop_glue (b := nd41 [1, 1, 0, 1, 0, 0]) (by kernel_rfl) (fun tm : Nat → LV => (tm 0, tm 1, tm 12, tm 13)) (fun tm : Nat → LV => tm 14) (fun a s g N => L41_7 a.1 a.2.1 a.2.2.1 a.2.2.2 s g N  K) (fun tm g R h => L41_7_ok R  K tm g h) tm g h

noncomputable def J41_1 (x0 x1 : LV) (g : LHeap)  (K : LV → LHeap → Prop) : Prop :=
  oK (builtinL Try.prog .len [115] [x1] g) fun t13 g =>
  J41_6 x0 x1 x1 t13 (.int .i64 (0)) g  K
abbrev kj41_1  (K : LV → LHeap → Prop) : LSt → Prop := fun st => J41_1 (st.tm 0) (st.tm 1) st.g  K
theorem J41_1_ok  (K : LV → LHeap → Prop) (tm : Nat → LV) (g : LHeap) (h : J41_1 (tm 0) (tm 1) g  K) : codeL Try.prog (Ok Try.prog) (nd41 [1, 1]) ⟨tm, g⟩ (en41 K) := by
  refine seq_i (a := nd41 [1, 1, 0]) (b := nd41 [1, 1, 1]) (k' := kj41_2  K) (by kernel_rfl) (fun st h => J41_2_ok  K st.tm st.g h) ?_
  refine seq_i (a := nd41 [1, 1, 0, 0]) (b := nd41 [1, 1, 0, 1]) (k' := kj41_6  K) (by kernel_rfl) (fun st h => J41_6_ok  K st.tm st.g h) ?_
  try unfold J41_1 at h
  unfold kj41_6
  generalize @J41_6 = Q41_6 at h ⊢
  unfold kj41_2
  generalize @J41_2 = Q41_2 at h ⊢
  refine code2_sound ok_mono _ _ _ ?_
  refine kmp ?_ h
  generalize Ok Try.prog = C
  unfold en41
  as_aux_lemma => kernel_rfl

noncomputable def J41_0 (x0 x1 : LV) (g : LHeap)  (K : LV → LHeap → Prop) : Prop :=
  vK (binL Try.prog .eql 23 true x0 .nilp) fun t11 =>
  ifB t11 (
  K (.int .i64 (6)) g) (
  J41_1 x0 x1 g  K)
abbrev kj41_0  (K : LV → LHeap → Prop) : LSt → Prop := fun st => J41_0 (st.tm 0) (st.tm 1) st.g  K
theorem J41_0_ok  (K : LV → LHeap → Prop) (tm : Nat → LV) (g : LHeap) (h : J41_0 (tm 0) (tm 1) g  K) : codeL Try.prog (Ok Try.prog) (nd41 [1]) ⟨tm, g⟩ (en41 K) := by
  refine seq_i (a := nd41 [1, 0]) (b := nd41 [1, 1]) (k' := kj41_1  K) (by kernel_rfl) (fun st h => J41_1_ok  K st.tm st.g h) ?_
  try unfold J41_0 at h
  unfold kj41_1
  generalize @J41_1 = Q41_1 at h ⊢
  refine code2_sound ok_mono _ _ _ ?_
  refine kmp ?_ h
  generalize Ok Try.prog = C
  unfold en41
  as_aux_lemma => kernel_rfl

noncomputable def F41 (x0 x1 : LV) (g : LHeap) (K : LV → LHeap → Prop) : Prop :=
  J41_0 x0 x1 g  K
theorem ok41 {x0 x1 : LV} {g : LHeap} {K : LV → LHeap → Prop} (h : g.Wf → (∀ v ∈ ([x0, x1] : List LV), ∀ b ∈ v.objs, b < g.next) → F41 x0 x1 g K) : Ok Try.prog 41 [x0, x1] g K := by
  refine ok_fw Try.mixed Try.func41 (by kernel_rfl) (by kernel_rfl) (c := nd41 []) (by kernel_rfl) fun wf lt => ?_
  rw [← en41_eq]
  replace h := h wf lt
  generalize hs : startL _ = tm
  replace h : F41 (tm 0) (tm 1) g K := by rw [← hs]; exact h
  refine seq_i (a := nd41 [0]) (b := nd41 [1]) (k' := kj41_0  K) (by kernel_rfl) (fun st h => J41_0_ok  K st.tm st.g h) ?_
  try unfold F41 at h
  unfold kj41_0
  generalize @J41_0 = Q41_0 at h ⊢
  refine code2_sound ok_mono _ _ _ ?_
  refine kmp ?_ h
  generalize Ok Try.prog = C
  unfold en41
  as_aux_lemma => kernel_rfl

/-! (*parapet/disk.Disk).Read (37 slots) -/
noncomputable def en42 (K : LV → LHeap → Prop) : LEx → LSt → Prop := fun e st => match e with
  | .exit _ => False
  | _ => K (.tuple [(st.tm 4), (st.tm 5)]) st.g
theorem en42_eq (K : LV → LHeap → Prop) : en42 K = endL Try.prog Try.f42 K := by
  funext e st
  cases e <;> kernel_rfl
noncomputable def nd42 (p : List Nat) : Code := subC p (bodyC Try.prog 42)
noncomputable def F42 (x0 x1 : LV) (g : LHeap) (K : LV → LHeap → Prop) : Prop :=
  vK (binL Try.prog .eql 23 true x0 .nilp) fun t9 =>
  ifB t9 (
  K (.tuple [.nils, (.int .i64 (6))]) g) (
  Ok Try.prog 75 [x0, x1] g fun t12 g =>
  vK (unL .not t12) fun t13 =>
  ifB t13 (
  K (.tuple [.nils, (.int .i64 (20))]) g) (
  vK (nilCheckL x0) fun t15 =>
  vK (fieldAddrL 5 t15) fun t16 =>
  vK (loadV none t16 g) fun t17 =>
  vK (binL Try.prog .add 3 true t17 (.int .i64 (1))) fun t18 =>
  vK (nilCheckL x0) fun t19 =>
  vK (fieldAddrL 5 t19) fun t20 =>
  gK (storeV 1 t20 t18 g) fun g =>
  vK (nilCheckL x0) fun t23 =>
  vK (fieldAddrL 2 t23) fun t24 =>
  vK (loadV none t24 g) fun t25 =>
  vK (lookupL Try.prog 85 t25 x1 true g) fun t27 =>
  vK (extractL t27 0) fun t28 =>
  vK (extractL t27 1) fun t29 =>
  ifB t29 (
  Ok Try.prog 46 [t28] g fun t32 g =>
  K (.tuple [t32, (.int .i64 (0))]) g) (
  Ok Try.prog 73 [x0, x1] g fun t35 g =>
  Ok Try.prog 46 [t35] g fun t36 g =>
  K (.tuple [t36, (.int .i64 (0))]) g)))
theorem ok42 {x0 x1 : LV} {g : LHeap} {K : LV → LHeap → Prop} (h : g.Wf → (∀ v ∈ ([x0, x1] : List LV), ∀ b ∈ v.objs, b < g.next) → F42 x0 x1 g K) : Ok Try.prog 42 [x0, x1] g K := by
  refine ok_fw Try.mixed Try.func42 (by kernel_rfl) (by kernel_rfl) (c := nd42 []) (by kernel_rfl) fun wf lt => ?_
  rw [← en42_eq]
  replace h := h wf lt
  generalize hs : startL _ = tm
  replace h : F42 (tm 0) (tm 1) g K := by rw [← hs]; exact h
  try unfold F42 at h
  refine code2_sound ok_mono _ _ _ ?_
  refine kmp ?_ h
  generalize Ok Try.prog = C
  unfold en42
  as_aux_lemma => kernel_rfl

/-! (*parapet/disk.Disk).Count (11 slots) -/
noncomputable def en47 (K : LV → LHeap → Prop) : LEx → LSt → Prop := fun e st => match e with
  | .exit _ => False
  | _ => K (st.tm 2) st.g
theorem en47_eq (K : LV → LHeap → Prop) : en47 K = endL Try.prog Try.f47 K := by
  funext e st
  cases e <;> kernel_rfl
noncomputable def nd47 (p : List Nat) : Code := subC p (bodyC Try.prog 47)
noncomputable def F47 (x0 : LV) (g : LHeap) (K : LV → LHeap → Prop) : Prop :=
  vK (binL Try.prog .eql 23 true x0 .nilp) fun t4 =>
  ifB t4 (
  K (.int .i64 (0)) g) (
  vK (nilCheckL x0) fun t6 =>
  vK (fieldAddrL 0 t6) fun t7 =>
  vK (loadV none t7 g) fun t8 =>
  oK (builtinL Try.prog .len [33] [t8] g) fun t9 g =>
  vK (binL Try.prog .quo 3 true t9 (.int .i64 (512))) fun t10 =>
  K t10 g)
theorem ok47 {x0 : LV} {g : LHeap} {K : LV → LHeap → Prop} (h : g.Wf → (∀ v ∈ ([x0] : List LV), ∀ b ∈ v.objs, b < g.next) → F47 x0 g K) : Ok Try.prog 47 [x0] g K := by
  refine ok_fw Try.mixed Try.func47 (by kernel_rfl) (by kernel_rfl) (c := nd47 []) (by kernel_rfl) fun wf lt => ?_
  rw [← en47_eq]
  replace h := h wf lt
  generalize hs : startL _ = tm
  replace h : F47 (tm 0) g K := by rw [← hs]; exact h
  try unfold F47 at h
  refine code2_sound ok_mono _ _ _ ?_
  refine kmp ?_ h
  generalize Ok Try.prog = C
  unfold en47
  as_aux_lemma => kernel_rfl

/-! (*parapet/disk.Disk).Write (52 slots) -/
noncomputable def en49 (K : LV → LHeap → Prop) : LEx → LSt → Prop := fun e st => match e with
  | .exit _ => False
  | _ => K (st.tm 6) st.g
theorem en49_eq (K : LV → LHeap → Prop) : en49 K = endL Try.prog Try.f49 K := by
  funext e st
  cases e <;> kernel_rfl
noncomputable def nd49 (p : List Nat) : Code := subC p (bodyC Try.prog 49)
noncomputable def F49 (x0 x1 x2 : LV) (g : LHeap) (K : LV → LHeap → Prop) : Prop :=
  vK (binL Try.prog .eql 23 true x0 .nilp) fun t10 =>
  ifB t10 (
  K (.int .i64 (6)) g) (
  Ok Try.prog 75 [x0, x1] g fun t14 g =>
  vK (unL .not t14) fun t15 =>
  ifB t15 (
  K (.int .i64 (20)) g) (
  oK (builtinL Try.prog .len [33] [x2] g) fun t18 g =>
  vK (binL Try.prog .neq 3 true t18 (.int .i64 (512))) fun t19 =>
  ifB t19 (
  K (.int .i64 (1)) g) (
  Ok Try.prog 72 [x0] g fun t22 g =>
  vK (unL .not t22) fun t23 =>
  ifB t23 (
  K (.int .i64 (0)) g) (
  Ok Try.prog 46 [x2] g fun t26 g =>
  vK (buildL Try.prog 113 [(0, x1), (1, t26)]) fun t27 =>
  oK (newL (.agg [(.int .i64 (0)), .nils]) g) fun t7 g =>
  gK (storeV 2 t7 t27 g) fun g =>
  vK (nilCheckL x0) fun t30 =>
  vK (fieldAddrL 1 t30) fun t31 =>
  vK (loadV none t31 g) fun t32 =>
  vK (loadV (some 2) t7 g) fun t33 =>
  ((oK (buildSliceL Try.prog 86 1 [(0, t33)] g) fun t34 g =>
  ((loadV none t31 g) = some t32 ∧ 
  ((oK (builtinL Try.prog .append [86, 86] [t32, t34] g) fun t35 g =>
  
  vK (nilCheckL x0) fun t36 =>
  vK (fieldAddrL 1 t36) fun t37 =>
  ((gK (storeV 1 t37 t35 g) fun g =>
  
  vK (nilCheckL x0) fun t39 =>
  vK (fieldAddrL 2 t39) fun t40 =>
  vK (loadV none t40 g) fun t41 =>
  vK (fieldAddrL 1 t7) fun t43 =>
  vK (loadV none t43 g) fun t44 =>
  ((gK (mapSetL Try.prog 85 t41 x1 t44 g) fun g =>
  
  vK (nilCheckL x0) fun t46 =>
  vK (fieldAddrL 6 t46) fun t47 =>
  vK (loadV none t47 g) fun t48 =>
  vK (binL Try.prog .add 3 true t48 (.int .i64 (1))) fun t49 =>
  vK (nilCheckL x0) fun t50 =>
  vK (fieldAddrL 6 t50) fun t51 =>
  gK (storeV 1 t51 t49 g) fun g =>
  K (.int .i64 (0)) g) ∧ True)) ∧ True)) ∧ True))) ∧ True)))))
theorem ok49 {x0 x1 x2 : LV} {g : LHeap} {K : LV → LHeap → Prop} (h : g.Wf → (∀ v ∈ ([x0, x1, x2] : List LV), ∀ b ∈ v.objs, b < g.next) → F49 x0 x1 x2 g K) : Ok Try.prog 49 [x0, x1, x2] g K := by
  refine ok_fw Try.mixed Try.func49 (by kernel_rfl) (by kernel_rfl) (c := nd49 []) (by kernel_rfl) fun wf lt => ?_
  rw [← en49_eq]
  replace h := h wf lt
  generalize hs : startL _ = tm
  replace h : F49 (tm 0) (tm 1) (tm 2) g K := by rw [← hs]; exact h
  try unfold F49 at h
  refine code2_sound ok_mono _ _ _ ?_
  refine kmp ?_ h
  generalize Ok Try.prog = C
  unfold en49
  as_aux_lemma => kernel_rfl

/-! (*parapet/disk.Disk).does (16 slots) -/
noncomputable def en72 (K : LV → LHeap → Prop) : LEx → LSt → Prop := fun e st => match e with
  | .exit _ => False
  | _ => K (st.tm 2) st.g
theorem en72_eq (K : LV → LHeap → Prop) : en72 K = endL Try.prog Try.f72 K := by
  funext e st
  cases e <;> kernel_rfl
noncomputable def nd72 (p : List Nat) : Code := subC p (bodyC Try.prog 72)
noncomputable def F72 (x0 : LV) (g : LHeap) (K : LV → LHeap → Prop) : Prop :=
  Ok Try.prog 88 [x0] g fun t4 g =>
  ifB t4 (
  K (.bool false) g) (
  vK (nilCheckL x0) fun t6 =>
  vK (fieldAddrL 3 t6) fun t7 =>
  vK (loadV none t7 g) fun t8 =>
  ifB t8 (
  vK (nilCheckL x0) fun t10 =>
  vK (fieldAddrL 4 t10) fun t11 =>
  vK (loadV none t11 g) fun t12 =>
  vK (binL Try.prog .sub 3 true t12 (.int .i64 (1))) fun t13 =>
  vK (nilCheckL x0) fun t14 =>
  vK (fieldAddrL 4 t14) fun t15 =>
  gK (storeV 1 t15 t13 g) fun g =>
  K (.bool true) g) (
  K (.bool true) g))
theorem ok72 {x0 : LV} {g : LHeap} {K : LV → LHeap → Prop} (h : g.Wf → (∀ v ∈ ([x0] : List LV), ∀ b ∈ v.objs, b < g.next) → F72 x0 g K) : Ok Try.prog 72 [x0] g K := by
  refine ok_fw Try.mixed Try.func72 (by kernel_rfl) (by kernel_rfl) (c := nd72 []) (by kernel_rfl) fun wf lt => ?_
  rw [← en72_eq]
  replace h := h wf lt
  generalize hs : startL _ = tm
  replace h : F72 (tm 0) g K := by rw [← hs]; exact h
  try unfold F72 at h
  refine code2_sound ok_mono _ _ _ ?_
  refine kmp ?_ h
  generalize Ok Try.prog = C
  unfold en72
  as_aux_lemma => kernel_rfl

/-! (*parapet/disk.Disk).sector (15 slots) -/
noncomputable def en73 (K : LV → LHeap → Prop) : LEx → LSt → Prop := fun e st => match e with
  | .exit _ => False
  | _ => K (st.tm 4) st.g
theorem en73_eq (K : LV → LHeap → Prop) : en73 K = endL Try.prog Try.f73 K := by
  funext e st
  cases e <;> kernel_rfl
noncomputable def nd73 (p : List Nat) : Code := subC p (bodyC Try.prog 73)
noncomputable def F73 (x0 x1 : LV) (g : LHeap) (K : LV → LHeap → Prop) : Prop :=
  vK (nilCheckL x0) fun t6 =>
  vK (fieldAddrL 0 t6) fun t7 =>
  vK (loadV none t7 g) fun t8 =>
  vK (binL Try.prog .mul 3 true x1 (.int .i64 (512))) fun t10 =>
  vK (binL Try.prog .add 3 true x1 (.int .i64 (1))) fun t12 =>
  vK (binL Try.prog .mul 3 true t12 (.int .i64 (512))) fun t13 =>
  vK (cutT Try.prog 33 t8 (some t10) (some t13) none (limL t8 g)) fun t14 =>
  K t14 g
theorem ok73 {x0 x1 : LV} {g : LHeap} {K : LV → LHeap → Prop} (h : g.Wf → (∀ v ∈ ([x0, x1] : List LV), ∀ b ∈ v.objs, b < g.next) → F73 x0 x1 g K) : Ok Try.prog 73 [x0, x1] g K := by
  refine ok_fw Try.mixed Try.func73 (by kernel_rfl) (by kernel_rfl) (c := nd73 []) (by kernel_rfl) fun wf lt => ?_
  rw [← en73_eq]
  replace h := h wf lt
  generalize hs : startL _ = tm
  replace h : F73 (tm 0) (tm 1) g K := by rw [← hs]; exact h
  try unfold F73 at h
  refine code2_sound ok_mono _ _ _ ?_
  refine kmp ?_ h
  generalize Ok Try.prog = C
  unfold en73
  as_aux_lemma => kernel_rfl

/-! (*parapet/disk.Disk).clear (9 slots) -/
noncomputable def en74 (K : LV → LHeap → Prop) : LEx → LSt → Prop := fun e st => match e with
  | .exit _ => False
  | _ => K (.tuple []) st.g
theorem en74_eq (K : LV → LHeap → Prop) : en74 K = endL Try.prog Try.f74 K := by
  funext e st
  cases e <;> kernel_rfl
noncomputable def nd74 (p : List Nat) : Code := subC p (bodyC Try.prog 74)
noncomputable def F74 (x0 : LV) (g : LHeap) (K : LV → LHeap → Prop) : Prop :=
  vK (nilCheckL x0) fun t3 =>
  vK (fieldAddrL 1 t3) fun t4 =>
  gK (storeV 1 t4 .nils g) fun g =>
  mkK (.map g.next) (g.alloc (.map [] 0 .ex)) fun t6 g =>
  vK (nilCheckL x0) fun t7 =>
  vK (fieldAddrL 2 t7) fun t8 =>
  gK (storeV 1 t8 t6 g) fun g =>
  K (.tuple []) g
theorem ok74 {x0 : LV} {g : LHeap} {K : LV → LHeap → Prop} (h : g.Wf → (∀ v ∈ ([x0] : List LV), ∀ b ∈ v.objs, b < g.next) → F74 x0 g K) : Ok Try.prog 74 [x0] g K := by
  refine ok_fw Try.mixed Try.func74 (by kernel_rfl) (by kernel_rfl) (c := nd74 []) (by kernel_rfl) fun wf lt => ?_
  rw [← en74_eq]
  replace h := h wf lt
  generalize hs : startL _ = tm
  replace h : F74 (tm 0) g K := by rw [← hs]; exact h
  try unfold F74 at h
  refine code2_sound ok_mono _ _ _ ?_
  refine kmp ?_ h
  generalize Ok Try.prog = C
  unfold en74
  as_aux_lemma => kernel_rfl

/-! (*parapet/disk.Disk).is (13 slots) -/
noncomputable def en75 (K : LV → LHeap → Prop) : LEx → LSt → Prop := fun e st => match e with
  | .exit _ => False
  | _ => K (st.tm 4) st.g
theorem en75_eq (K : LV → LHeap → Prop) : en75 K = endL Try.prog Try.f75 K := by
  funext e st
  cases e <;> kernel_rfl
noncomputable def nd75 (p : List Nat) : Code := subC p (bodyC Try.prog 75)
noncomputable def F75 (x0 x1 : LV) (g : LHeap) (K : LV → LHeap → Prop) : Prop :=
  vK (binL Try.prog .geq 3 true x1 (.int .i64 (0))) fun t6 =>
  gd t6 true g (fun K => K x1 g) fun t8 g =>
  gd t6 true g (fun K => K x0 g) fun t9 g =>
  gd t6 true g (fun K => Ok Try.prog 47 [t9] g K) fun t10 g =>
  gd t6 true g (fun K => vK (binL Try.prog .lss 3 false t8 t10) fun v => K v g) fun t11 g =>
  vK (pickL t6 t11 (.bool false)) fun t12 =>
  K t12 g
theorem ok75 {x0 x1 : LV} {g : LHeap} {K : LV → LHeap → Prop} (h : g.Wf → (∀ v ∈ ([x0, x1] : List LV), ∀ b ∈ v.objs, b < g.next) → F75 x0 x1 g K) : Ok Try.prog 75 [x0, x1] g K := by
  refine ok_fw Try.mixed Try.func75 (by kernel_rfl) (by kernel_rfl) (c := nd75 []) (by kernel_rfl) fun wf lt => ?_
  rw [← en75_eq]
  replace h := h wf lt
  generalize hs : startL _ = tm
  replace h : F75 (tm 0) (tm 1) g K := by rw [← hs]; exact h
  try unfold F75 at h
  refine code2_sound ok_mono _ _ _ ?_
  refine kmp ?_ h
  generalize Ok Try.prog = C
  unfold en75
  as_aux_lemma => kernel_rfl

/-! (*parapet/disk.Disk).Off (18 slots) -/
noncomputable def en88 (K : LV → LHeap → Prop) : LEx → LSt → Prop := fun e st => match e with
  | .exit _ => False
  | _ => K (st.tm 2) st.g
theorem en88_eq (K : LV → LHeap → Prop) : en88 K = endL Try.prog Try.f88 K := by
  funext e st
  cases e <;> kernel_rfl
noncomputable def nd88 (p : List Nat) : Code := subC p (bodyC Try.prog 88)
noncomputable def F88 (x0 : LV) (g : LHeap) (K : LV → LHeap → Prop) : Prop :=
  vK (binL Try.prog .neq 23 true x0 .nilp) fun t4 =>
  gd t4 true g (fun K => K x0 g) fun t6 g =>
  gd t4 true g (fun K => vK (nilCheckL t6) fun v => K v g) fun t7 g =>
  gd t4 true g (fun K => vK (fieldAddrL 3 t7) fun v => K v g) fun t8 g =>
  gd t4 true g (fun K => vK (loadV none t8 g) fun v => K v g) fun t9 g =>
  vK (pickL t4 t9 (.bool false)) fun t10 =>
  gd t10 true g (fun K => K x0 g) fun t12 g =>
  gd t10 true g (fun K => vK (nilCheckL t12) fun v => K v g) fun t13 g =>
  gd t10 true g (fun K => vK (fieldAddrL 4 t13) fun v => K v g) fun t14 g =>
  gd t10 true g (fun K => vK (loadV none t14 g) fun v => K v g) fun t15 g =>
  gd t10 true g (fun K => vK (binL Try.prog .eql 3 true t15 (.int .i64 (0))) fun v => K v g) fun t16 g =>
  vK (pickL t10 t16 (.bool false)) fun t17 =>
  K t17 g
theorem ok88 {x0 : LV} {g : LHeap} {K : LV → LHeap → Prop} (h : g.Wf → (∀ v ∈ ([x0] : List LV), ∀ b ∈ v.objs, b < g.next) → F88 x0 g K) : Ok Try.prog 88 [x0] g K := by
  refine ok_fw Try.mixed Try.func88 (by kernel_rfl) (by kernel_rfl) (c := nd88 []) (by kernel_rfl) fun wf lt => ?_
  rw [← en88_eq]
  replace h := h wf lt
  generalize hs : startL _ = tm
  replace h : F88 (tm 0) g K := by rw [← hs]; exact h
  try unfold F88 at h
  refine code2_sound ok_mono _ _ _ ?_
  refine kmp ?_ h
  generalize Ok Try.prog = C
  unfold en88
  as_aux_lemma => kernel_rfl

/-! (*parapet/buf.Cache).Read (88 slots) -/
noncomputable def en13 (K : LV → LHeap → Prop) : LEx → LSt → Prop := fun e st => match e with
  | .exit _ => False
  | _ => K (.tuple [(st.tm 4), (st.tm 5)]) st.g
theorem en13_eq (K : LV → LHeap → Prop) : en13 K = endL Try.prog Try.f13 K := by
  funext e st
  cases e <;> kernel_rfl
noncomputable def nd13 (p : List Nat) : Code := subC p (bodyC Try.prog 13)
noncomputable def F13 (x0 x1 : LV) (g : LHeap) (K : LV → LHeap → Prop) : Prop :=
  Ok Try.prog 44 [x0] g fun t11 g =>
  vK (unL .not t11) fun t12 =>
  ifB t12 (
  K (.tuple [.nils, (.int .i64 (6))]) g) (
  vK (nilCheckL x0) fun t15 =>
  vK (fieldAddrL 2 t15) fun t16 =>
  vK (loadV none t16 g) fun t17 =>
  vK (lookupL Try.prog 89 t17 x1 true g) fun t19 =>
  vK (extractL t19 0) fun t20 =>
  vK (extractL t19 1) fun t21 =>
  ifB t21 (
  vK (nilCheckL x0) fun t24 =>
  vK (fieldAddrL 4 t24) fun t25 =>
  vK (fieldAddrL 0 t25) fun t26 =>
  vK (loadV none t26 g) fun t27 =>
  vK (binL Try.prog .add 3 true t27 (.int .i64 (1))) fun t28 =>
  vK (nilCheckL x0) fun t29 =>
  vK (fieldAddrL 4 t29) fun t30 =>
  vK (fieldAddrL 0 t30) fun t31 =>
  gK (storeV 1 t31 t28 g) fun g =>
  Ok Try.prog 45 [x0, x1] g fun t34 g =>
  vK (nilCheckL t20) fun t36 =>
  vK (fieldAddrL 0 t36) fun t37 =>
  vK (loadV none t37 g) fun t38 =>
  Ok Try.prog 46 [t38] g fun t39 g =>
  K (.tuple [t39, (.int .i64 (0))]) g) (
  vK (binL Try.prog .lss 3 true x1 (.int .i64 (0))) fun t41 =>
  gd t41 false g (fun K => K x1 g) fun t43 g =>
  gd t41 false g (fun K => K x0 g) fun t44 g =>
  gd t41 false g (fun K => vK (nilCheckL t44) fun v => K v g) fun t45 g =>
  gd t41 false g (fun K => vK (fieldAddrL 0 t45) fun v => K v g) fun t46 g =>
  gd t41 false g (fun K => vK (loadV none t46 g) fun v => K v g) fun t47 g =>
  gd t41 false g (fun K => Ok Try.prog 47 [t47] g K) fun t48 g =>
  gd t41 false g (fun K => vK (binL Try.prog .geq 3 false t43 t48) fun v => K v g) fun t49 g =>
  vK (pickL t41 (.bool true) t49) fun t50 =>
  ifB t50 (
  K (.tuple [.nils, (.int .i64 (20))]) g) (
  Ok Try.prog 48 [x0] g fun t52 g =>
  vK (unL .not t52) fun t53 =>
  ifB t53 (
  K (.tuple [.nils, (.int .i64 (150))]) g) (
  vK (nilCheckL x0) fun t56 =>
  vK (fieldAddrL 0 t56) fun t57 =>
  vK (loadV none t57 g) fun t58 =>
  Ok Try.prog 42 [t58, x1] g fun t60 g =>
  vK (extractL t60 0) fun t61 =>
  vK (extractL t60 1) fun t62 =>
  vK (binL Try.prog .neq 24 true t62 (.int .i64 (0))) fun t64 =>
  ifB t64 (
  K (.tuple [.nils, t62]) g) (
  vK (nilCheckL x0) fun t67 =>
  vK (fieldAddrL 4 t67) fun t68 =>
  vK (fieldAddrL 1 t68) fun t69 =>
  vK (loadV none t69 g) fun t70 =>
  vK (binL Try.prog .add 3 true t70 (.int .i64 (1))) fun t71 =>
  vK (nilCheckL x0) fun t72 =>
  vK (fieldAddrL 4 t72) fun t73 =>
  vK (fieldAddrL 1 t73) fun t74 =>
  gK (storeV 1 t74 t71 g) fun g =>
  vK (nilCheckL x0) fun t76 =>
  vK (fieldAddrL 2 t76) fun t77 =>
  vK (loadV none t77 g) fun t78 =>
  ((Ok Try.prog 46 [t61] g fun t81 g =>
  ((loadV none t77 g) = some t78 ∧ 
  vK (buildL Try.prog 97 [(0, t81)]) fun t82 =>
  ((oK (newL t82 g) fun t83 g =>
  ((loadV none t77 g) = some t78 ∧ 
  ((gK (mapSetL Try.prog 89 t78 x1 t83 g) fun g =>
  
  Ok Try.prog 45 [x0, x1] g fun t86 g =>
  K (.tuple [t61, (.int .i64 (0))]) g) ∧ True))) ∧ True))) ∧ True))))))
theorem ok13 {x0 x1 : LV} {g : LHeap} {K : LV → LHeap → Prop} (h : g.Wf → (∀ v ∈ ([x0, x1] : List LV), ∀ b ∈ v.objs, b < g.next) → F13 x0 x1 g K) : Ok Try.prog 13 [x0, x1] g K := by
  refine ok_fw Try.mixed Try.func13 (by kernel_rfl) (by kernel_rfl) (c := nd13 []) (by kernel_rfl) fun wf lt => ?_
  rw [← en13_eq]
  replace h := h wf lt
  generalize hs : startL _ = tm
  replace h : F13 (tm 0) (tm 1) g K := by rw [← hs]; exact h
  try unfold F13 at h
  refine code2_sound ok_mono _ _ _ ?_
  refine kmp ?_ h
  generalize Ok Try.prog = C
  unfold en13
  as_aux_lemma => kernel_rfl

/-! (*parapet/buf.Cache).Write (57 slots) -/
noncomputable def en15 (K : LV → LHeap → Prop) : LEx → LSt → Prop := fun e st => match e with
  | .exit _ => False
  | _ => K (st.tm 6) st.g
theorem en15_eq (K : LV → LHeap → Prop) : en15 K = endL Try.prog Try.f15 K := by
  funext e st
  cases e <;> kernel_rfl
noncomputable def nd15 (p : List Nat) : Code := subC p (bodyC Try.prog 15)
noncomputable def F15 (x0 x1 x2 : LV) (g : LHeap) (K : LV → LHeap → Prop) : Prop :=
  Ok Try.prog 44 [x0] g fun t11 g =>
  vK (unL .not t11) fun t12 =>
  ifB t12 (
  K (.int .i64 (6)) g) (
  oK (builtinL Try.prog .len [33] [x2] g) fun t15 g =>
  vK (binL Try.prog .neq 3 true t15 (.int .i64 (512))) fun t16 =>
  ifB t16 (
  K (.int .i64 (1)) g) (
  vK (binL Try.prog .lss 3 true x1 (.int .i64 (0))) fun t19 =>
  gd t19 false g (fun K => K x1 g) fun t21 g =>
  gd t19 false g (fun K => K x0 g) fun t22 g =>
  gd t19 false g (fun K => vK (nilCheckL t22) fun v => K v g) fun t23 g =>
  gd t19 false g (fun K => vK (fieldAddrL 0 t23) fun v => K v g) fun t24 g =>
  gd t19 false g (fun K => vK (loadV none t24 g) fun v => K v g) fun t25 g =>
  gd t19 false g (fun K => Ok Try.prog 47 [t25] g K) fun t26 g =>
  gd t19 false g (fun K => vK (binL Try.prog .geq 3 false t21 t26) fun v => K v g) fun t27 g =>
  vK (pickL t19 (.bool true) t27) fun t28 =>
  ifB t28 (
  K (.int .i64 (20)) g) (
  vK (nilCheckL x0) fun t31 =>
  vK (fieldAddrL 2 t31) fun t32 =>
  vK (loadV none t32 g) fun t33 =>
  vK (lookupL Try.prog 89 t33 x1 true g) fun t35 =>
  vK (extractL t35 0) fun t36 =>
  vK (extractL t35 1) fun t37 =>
  vK (unL .not t37) fun t39 =>
  gd t39 true g (fun K => K x0 g) fun t41 g =>
  gd t39 true g (fun K => Ok Try.prog 48 [t41] g K) fun t42 g =>
  gd t39 true g (fun K => vK (unL .not t42) fun v => K v g) fun t43 g =>
  vK (pickL t39 t43 (.bool false)) fun t44 =>
  ifB t44 (
  K (.int .i64 (150)) g) (
  vK (nilCheckL x0) fun t46 =>
  vK (fieldAddrL 2 t46) fun t47 =>
  vK (loadV none t47 g) fun t48 =>
  ((Ok Try.prog 46 [x2] g fun t51 g =>
  ((loadV none t47 g) = some t48 ∧ 
  vK (buildL Try.prog 97 [(0, t51), (1, (.bool true))]) fun t52 =>
  ((oK (newL t52 g) fun t53 g =>
  ((loadV none t47 g) = some t48 ∧ 
  ((gK (mapSetL Try.prog 89 t48 x1 t53 g) fun g =>
  
  Ok Try.prog 45 [x0, x1] g fun t56 g =>
  K (.int .i64 (0)) g) ∧ True))) ∧ True))) ∧ True)))))
theorem ok15 {x0 x1 x2 : LV} {g : LHeap} {K : LV → LHeap → Prop} (h : g.Wf → (∀ v ∈ ([x0, x1, x2] : List LV), ∀ b ∈ v.objs, b < g.next) → F15 x0 x1 x2 g K) : Ok Try.prog 15 [x0, x1, x2] g K := by
  refine ok_fw Try.mixed Try.func15 (by kernel_rfl) (by kernel_rfl) (c := nd15 []) (by kernel_rfl) fun wf lt => ?_
  rw [← en15_eq]
  replace h := h wf lt
  generalize hs : startL _ = tm
  replace h : F15 (tm 0) (tm 1) (tm 2) g K := by rw [← hs]; exact h
  try unfold F15 at h
  refine code2_sound ok_mono _ _ _ ?_
  refine kmp ?_ h
  generalize Ok Try.prog = C
  unfold en15
  as_aux_lemma => kernel_rfl

/-! (*parapet/buf.Cache).Back (55 slots) -/
noncomputable def en17 (K : LV → LHeap → Prop) : LEx → LSt → Prop := fun e st => match e with
  | .exit _ => False
  | _ => K (.tuple [(st.tm 4), (st.tm 5)]) st.g
theorem en17_eq (K : LV → LHeap → Prop) : en17 K = endL Try.prog Try.f17 K := by
  funext e st
  cases e <;> kernel_rfl
noncomputable def nd17 (p : List Nat) : Code := subC p (bodyC Try.prog 17)
noncomputable def F17 (x0 x1 : LV) (g : LHeap) (K : LV → LHeap → Prop) : Prop :=
  Ok Try.prog 44 [x0] g fun t10 g =>
  vK (unL .not t10) fun t11 =>
  ifB t11 (
  K (.tuple [(.bool false), (.int .i64 (6))]) g) (
  vK (nilCheckL x0) fun t14 =>
  vK (fieldAddrL 2 t14) fun t15 =>
  vK (loadV none t15 g) fun t16 =>
  vK (lookupL Try.prog 89 t16 x1 true g) fun t18 =>
  vK (extractL t18 0) fun t19 =>
  vK (extractL t18 1) fun t20 =>
  vK (unL .not t20) fun t22 =>
  gd t22 false g (fun K => K t19 g) fun t24 g =>
  gd t22 false g (fun K => vK (nilCheckL t24) fun v => K v g) fun t25 g =>
  gd t22 false g (fun K => vK (fieldAddrL 1 t25) fun v => K v g) fun t26 g =>
  gd t22 false g (fun K => vK (loadV none t26 g) fun v => K v g) fun t27 g =>
  gd t22 false g (fun K => vK (unL .not t27) fun v => K v g) fun t28 g =>
  vK (pickL t22 (.bool true) t28) fun t29 =>
  ifB t29 (
  K (.tuple [(.bool false), (.int .i64 (0))]) g) (
  vK (nilCheckL x0) fun t31 =>
  vK (fieldAddrL 0 t31) fun t32 =>
  vK (loadV none t32 g) fun t33 =>
  vK (nilCheckL t19) fun t36 =>
  vK (fieldAddrL 0 t36) fun t37 =>
  vK (loadV none t37 g) fun t38 =>
  ((Ok Try.prog 49 [t33, x1, t38] g fun t39 g =>
  
  vK (binL Try.prog .neq 24 true t39 (.int .i64 (0))) fun t41 =>
  ifB t41 (
  K (.tuple [(.bool false), t39]) g) (
  vK (nilCheckL t19) fun t44 =>
  vK (fieldAddrL 1 t44) fun t45 =>
  gK (storeV 1 t45 (.bool false) g) fun g =>
  vK (nilCheckL x0) fun t47 =>
  vK (fieldAddrL 4 t47) fun t48 =>
  vK (fieldAddrL 3 t48) fun t49 =>
  vK (loadV none t49 g) fun t50 =>
  vK (binL Try.prog .add 3 true t50 (.int .i64 (1))) fun t51 =>
  vK (nilCheckL x0) fun t52 =>
  vK (fieldAddrL 4 t52) fun t53 =>
  vK (fieldAddrL 3 t53) fun t54 =>
  gK (storeV 1 t54 t51 g) fun g =>
  K (.tuple [(.bool true), (.int .i64 (0))]) g)) ∧ True)))
theorem ok17 {x0 x1 : LV} {g : LHeap} {K : LV → LHeap → Prop} (h : g.Wf → (∀ v ∈ ([x0, x1] : List LV), ∀ b ∈ v.objs, b < g.next) → F17 x0 x1 g K) : Ok Try.prog 17 [x0, x1] g K := by
  refine ok_fw Try.mixed Try.func17 (by kernel_rfl) (by kernel_rfl) (c := nd17 []) (by kernel_rfl) fun wf lt => ?_
  rw [← en17_eq]
  replace h := h wf lt
  generalize hs : startL _ = tm
  replace h : F17 (tm 0) (tm 1) g K := by rw [← hs]; exact h
  try unfold F17 at h
  refine code2_sound ok_mono _ _ _ ?_
  refine kmp ?_ h
  generalize Ok Try.prog = C
  unfold en17
  as_aux_lemma => kernel_rfl

/-! (*parapet/buf.Cache).Forget (39 slots) -/
noncomputable def en18 (K : LV → LHeap → Prop) : LEx → LSt → Prop := fun e st => match e with
  | .exit _ => False
  | _ => K (st.tm 2) st.g
theorem en18_eq (K : LV → LHeap → Prop) : en18 K = endL Try.prog Try.f18 K := by
  funext e st
  cases e <;> kernel_rfl
noncomputable def nd18 (p : List Nat) : Code := subC p (bodyC Try.prog 18)
noncomputable def J18_2 (x0 x3 : LV) (g : LHeap)  (K : LV → LHeap → Prop) : Prop :=
  oK (builtinL Try.prog .len [50] [x3] g) fun t34 g =>
  Ok Try.prog 35 [x0] g fun t36 g =>
  oK (builtinL Try.prog .len [50] [t36] g) fun t37 g =>
  vK (binL Try.prog .sub 3 false t34 t37) fun t38 =>
  K t38 g
abbrev kj18_2  (K : LV → LHeap → Prop) : LSt → Prop := fun st => J18_2 (st.tm 0) (st.tm 3) st.g  K
theorem J18_2_ok  (K : LV → LHeap → Prop) (tm : Nat → LV) (g : LHeap) (h : J18_2 (tm 0) (tm 3) g  K) : codeL Try.prog (Ok Try.prog) (nd18 [1, 1, 1]) ⟨tm, g⟩ (en18 K) := by
  try unfold J18_2 at h
  refine code2_sound ok_mono _ _ _ ?_
  refine kmp ?_ h
  generalize Ok Try.prog = C
  unfold en18
  as_aux_lemma => kernel_rfl

noncomputable def L18_4 (x0 x3 x8 x9 : LV) (x10 : LV) (g : LHeap) (N4 : LV → LHeap → Prop) (K : LV → LHeap → Prop) : Prop :=
  vK (binL Try.prog .lss 3 false x10 x9) fun t11 =>
  ifB t11 (
  vK (ixAddrL none 1 x8 x10) fun t12 =>
  vK (loadV none t12 g) fun t13 =>
  vK (nilCheckL x0) fun t15 =>
  vK (fieldAddrL 2 t15) fun t16 =>
  vK (loadV none t16 g) fun t17 =>
  vK (lookupL Try.prog 89 t17 t13 false g) fun t19 =>
  vK (nilCheckL t19) fun t20 =>
  vK (fieldAddrL 1 t20) fun t21 =>
  vK (loadV none t21 g) fun t22 =>
  vK (unL .not t22) fun t23 =>
  ifB t23 (
  vK (nilCheckL x0) fun t25 =>
  vK (fieldAddrL 2 t25) fun t26 =>
  vK (loadV none t26 g) fun t27 =>
  oK (builtinL Try.prog .delete [89, 3] [t27, t13] g) fun u g =>
  Ok Try.prog 50 [x0, t13] g fun t31 g =>
  vK (binL Try.prog .add 3 true x10 (.int .i64 (1))) fun t32 =>
  N4 t32 g) (
  vK (binL Try.prog .add 3 true x10 (.int .i64 (1))) fun t32 =>
  N4 t32 g)) (
  J18_2 x0 x3 g  K)
theorem L18_4_ok (R4 : LV × LV × LV × LV → LV → LHeap → Prop) (K : LV → LHeap → Prop) (tm : Nat → LV) (g : LHeap) (h : L18_4 (tm 0) (tm 3) (tm 8) (tm 9) (tm 10) g (fun s g => R4 ((tm 0), (tm 3), (tm 8), (tm 9)) s g) K) : codeL Try.prog (Ok Try.prog) (nd18 [1, 1, 0, 1, 0, 0]) ⟨tm, g⟩ (roundK (fun tm : Nat → LV => (tm 0, tm 3, tm 8, tm 9)) (fun tm : Nat → LV => tm 10) R4 (exitL 0 (thenL (kj18_2  K) (en18 K)))) := by
  try unfold L18_4 at h
  unfold kj18_2
  generalize @J18_2 = Q18_2 at h ⊢
  refine code2_sound ok_mono _ _ _ ?_
  refine kmp ?_ h
  generalize Ok Try.prog = C
  unfold en18
  as_aux_lemma => kernel_rfl

noncomputable def J18_3 (x0 x3 x8 x9 x10 : LV) (g : LHeap)  (K : LV → LHeap → Prop) : Prop :=
  loopP (fun s g N => L18_4 x0 x3 x8 x9 s g N  K) x10 g
abbrev kj18_3  (K : LV → LHeap → Prop) : LSt → Prop := fun st => J18_3 (st.tm 0) (st.tm 3) (st.tm 8) (st.tm 9) (st.tm 10) st.g  K
theorem J18_3_ok  (K : LV → LHeap → Prop) (tm : Nat → LV) (g : LHeap) (h : J18_3 (tm 0) (tm 3) (tm 8) (tm 9) (tm 10) g  K) : codeL Try.prog (Ok Try.prog) (nd18 [1, 1, 0, 1]) ⟨tm, g⟩ (thenL (kj18_2  K) (en18 K)) := by
  refine block_i (b := nd18 [1, 1, 0, 1, 0]) (i := 0) (by kernel_rfl) ?_
  exact loop_glue (b := nd18 [1, 1, 0, 1, 0, 0]) (by kernel_rfl) (fun tm : Nat → LV => (tm 0, tm 3, tm 8, tm 9)) (fun tm : Nat → LV => tm 10) (fun a s g N => L18_4 a.1 a.2.1 a.2.2.1 a.2.2.2 s g N  K) (fun tm g R h => L18_4_ok R  K tm g h) tm g h

noncomputable def J18_1 (x0 x3 : LV) (g : LHeap)  (K : LV → LHeap → Prop) : Prop :=
  oK (builtinL Try.prog .len [50] [x3] g) fun t9 g =>
  J18_3 x0 x3 x3 t9 (.int .i64 (0)) g  K
abbrev kj18_1  (K : LV → LHeap → Prop) : LSt → Prop := fun st => J18_1 (st.tm 0) (st.tm 3) st.g  K
theorem J18_1_ok  (K : LV → LHeap → Prop) (tm : Nat → LV) (g : LHeap) (h : J18_1 (tm 0) (tm 3) g  K) : codeL Try.prog (Ok Try.prog) (nd18 [1, 1]) ⟨tm, g⟩ (en18 K) := by
  refine seq_i (a := nd18 [1, 1, 0]) (b := nd18 [1, 1, 1]) (k' := kj18_2  K) (by kernel_rfl) (fun st h => J18_2_ok  K st.tm st.g h) ?_
  refine seq_i (a := nd18 [1, 1, 0, 0]) (b := nd18 [1, 1, 0, 1]) (k' := kj18_3  K) (by kernel_rfl) (fun st h => J18_3_ok  K st.tm st.g h) ?_
  try unfold J18_1 at h
  unfold kj18_3
  generalize @J18_3 = Q18_3 at h ⊢
  unfold kj18_2
  generalize @J18_2 = Q18_2 at h ⊢
  refine code2_sound ok_mono _ _ _ ?_
  refine kmp ?_ h
  generalize Ok Try.prog = C
  unfold en18
  as_aux_lemma => kernel_rfl

noncomputable def J18_0 (x0 : LV) (g : LHeap)  (K : LV → LHeap → Prop) : Prop :=
  Ok Try.prog 35 [x0] g fun t7 g =>
  J18_1 x0 t7 g  K
abbrev kj18_0  (K : LV → LHeap → Prop) : LSt → Prop := fun st => J18_0 (st.tm 0) st.g  K
theorem J18_0_ok  (K : LV → LHeap → Prop) (tm : Nat → LV) (g : LHeap) (h : J18_0 (tm 0) g  K) : codeL Try.prog (Ok Try.prog) (nd18 [1]) ⟨tm, g⟩ (en18 K) := by
  refine seq_i (a := nd18 [1, 0]) (b := nd18 [1, 1]) (k' := kj18_1  K) (by kernel_rfl) (fun st h => J18_1_ok  K st.tm st.g h) ?_
  try unfold J18_0 at h
  unfold kj18_1
  generalize @J18_1 = Q18_1 at h ⊢
  refine code2_sound ok_mono _ _ _ ?_
  refine kmp ?_ h
  generalize Ok Try.prog = C
  unfold en18
  as_aux_lemma => kernel_rfl

noncomputable def F18 (x0 : LV) (g : LHeap) (K : LV → LHeap → Prop) : Prop :=
  J18_0 x0 g  K
theorem ok18 {x0 : LV} {g : LHeap} {K : LV → LHeap → Prop} (h : g.Wf → (∀ v ∈ ([x0] : List LV), ∀ b ∈ v.objs, b < g.next) → F18 x0 g K) : Ok Try.prog 18 [x0] g K := by
  refine ok_fw Try.mixed Try.func18 (by kernel_rfl) (by kernel_rfl) (c := nd18 []) (by kernel_rfl) fun wf lt => ?_
  rw [← en18_eq]
  replace h := h wf lt
  generalize hs : startL _ = tm
  replace h : F18 (tm 0) g K := by rw [← hs]; exact h
  refine seq_i (a := nd18 [0]) (b := nd18 [1]) (k' := kj18_0  K) (by kernel_rfl) (fun st h => J18_0_ok  K st.tm st.g h) ?_
  try unfold F18 at h
  unfold kj18_0
  generalize @J18_0 = Q18_0 at h ⊢
  refine code2_sound ok_mono _ _ _ ?_
  refine kmp ?_ h
  generalize Ok Try.prog = C
  unfold en18
  as_aux_lemma => kernel_rfl

/-! (*parapet/buf.Cache).Dirty (30 slots) -/
noncomputable def en34 (K : LV → LHeap → Prop) : LEx → LSt → Prop := fun e st => match e with
  | .exit _ => False
  | _ => K (st.tm 2) st.g
theorem en34_eq (K : LV → LHeap → Prop) : en34 K = endL Try.prog Try.f34 K := by
  funext e st
  cases e <;> kernel_rfl
noncomputable def nd34 (p : List Nat) : Code := subC p (bodyC Try.prog 34)
noncomputable def J34_2 (x3 : LV) (g : LHeap)  (K : LV → LHeap → Prop) : Prop :=
  Ok Try.prog 66 [x3] g fun t28 g =>
  K x3 g
abbrev kj34_2  (K : LV → LHeap → Prop) : LSt → Prop := fun st => J34_2 (st.tm 3) st.g  K
theorem J34_2_ok  (K : LV → LHeap → Prop) (tm : Nat → LV) (g : LHeap) (h : J34_2 (tm 3) g  K) : codeL Try.prog (Ok Try.prog) (nd34 [1, 1, 1]) ⟨tm, g⟩ (en34 K) := by
  try unfold J34_2 at h
  refine code2_sound ok_mono _ _ _ ?_
  refine kmp ?_ h
  generalize Ok Try.prog = C
  unfold en34
  as_aux_lemma => kernel_rfl

noncomputable def L34_4 (x0 x7 x8 : LV) (x3 x9 : LV) (g : LHeap) (N4 : LV × LV → LHeap → Prop) (K : LV → LHeap → Prop) : Prop :=
  vK (binL Try.prog .lss 3 false x9 x8) fun t10 =>
  ifB t10 (
  vK (ixAddrL none 1 x7 x9) fun t11 =>
  vK (loadV none t11 g) fun t12 =>
  vK (nilCheckL x0) fun t14 =>
  vK (fieldAddrL 2 t14) fun t15 =>
  vK (loadV none t15 g) fun t16 =>
  vK (lookupL Try.prog 89 t16 t12 false g) fun t18 =>
  vK (nilCheckL t18) fun t19 =>
  vK (fieldAddrL 1 t19) fun t20 =>
  vK (loadV none t20 g) fun t21 =>
  ifB t21 (
  oK (buildSliceL Try.prog 50 1 [(0, t12)] g) fun t24 g =>
  oK (builtinL Try.prog .append [50, 50] [x3, t24] g) fun t25 g =>
  vK (binL Try.prog .add 3 true x9 (.int .i64 (1))) fun t26 =>
  N4 (t25, t26) g) (
  vK (binL Try.prog .add 3 true x9 (.int .i64 (1))) fun t26 =>
  N4 (x3, t26) g)) (
  J34_2 x3 g  K)
theorem L34_4_ok (R4 : LV × LV × LV → LV × LV → LHeap → Prop) (K : LV → LHeap → Prop) (tm : Nat → LV) (g : LHeap) (h : L34_4 (tm 0) (tm 7) (tm 8) (tm 3) (tm 9) g (fun s g => R4 ((tm 0), (tm 7), (tm 8)) s g) K) : codeL Try.prog (Ok Try.prog) (nd34 [1, 1, 0, 1, 0, 0]) ⟨tm, g⟩ (roundK (fun tm : Nat → LV => (tm 0, tm 7, tm 8)) (fun tm : Nat → LV => (tm 3, tm 9)) R4 (exitL 0 (thenL (kj34_2  K) (en34 K)))) := by
  try unfold L34_4 at h
  unfold kj34_2
  generalize @J34_2 = Q34_2 at h ⊢
  refine code2_sound ok_mono _ _ _ ?_
  refine kmp ?_ h
  generalize Ok Try.prog = C
  unfold en34
  as_aux_lemma => kernel_rfl

noncomputable def J34_3 (x0 x3 x7 x8 x9 : LV) (g : LHeap)  (K : LV → LHeap → Prop) : Prop :=
  loopP (fun s g N => L34_4 x0 x7 x8 s.1 s.2 g N  K) (x3, x9) g
abbrev kj34_3  (K : LV → LHeap → Prop) : LSt → Prop := fun st => J34_3 (st.tm 0) (st.tm 3) (st.tm 7) (st.tm 8) (st.tm 9) st.g  K
theorem J34_3_ok  (K : LV → LHeap → Prop) (tm : Nat → LV) (g : LHeap) (h : J34_3 (tm 0) (tm 3) (tm 7) (tm 8) (tm 9) g  K) : codeL Try.prog (Ok Try.prog) (nd34 [1, 1, 0, 1]) ⟨tm, g⟩ (thenL (kj34_2  K) (en34 K)) := by
  refine block_i (b := nd34 [1, 1, 0, 1, 0]) (i := 0) (by kernel_rfl) ?_
  exact loop_glue (b := nd34 [1, 1, 0, 1, 0, 0]) (by kernel_rfl) (fun tm : Nat → LV => (tm 0, tm 7, tm 8)) (fun tm : Nat → LV => (tm 3, tm 9)) (fun a s g N => L34_4 a.1 a.2.1 a.2.2 s.1 s.2 g N  K) (fun tm g R h => L34_4_ok R  K tm g h) tm g h

noncomputable def J34_1 (x0 x3 : LV) (g : LHeap)  (K : LV → LHeap → Prop) : Prop :=
  Ok Try.prog 35 [x0] g fun t7 g =>
  oK (builtinL Try.prog .len [50] [t7] g) fun t8 g =>
  J34_3 x0 x3 t7 t8 (.int .i64 (0)) g  K
abbrev kj34_1  (K : LV → LHeap → Prop) : LSt → Prop := fun st => J34_1 (st.tm 0) (st.tm 3) st.g  K
theorem J34_1_ok  (K : LV → LHeap → Prop) (tm : Nat → LV) (g : LHeap) (h : J34_1 (tm 0) (tm 3) g  K) : codeL Try.prog (Ok Try.prog) (nd34 [1, 1]) ⟨tm, g⟩ (en34 K) := by
  refine seq_i (a := nd34 [1, 1, 0]) (b := nd34 [1, 1, 1]) (k' := kj34_2  K) (by kernel_rfl) (fun st h => J34_2_ok  K st.tm st.g h) ?_
  refine seq_i (a := nd34 [1, 1, 0, 0]) (b := nd34 [1, 1, 0, 1]) (k' := kj34_3  K) (by kernel_rfl) (fun st h => J34_3_ok  K st.tm st.g h) ?_
  try unfold J34_1 at h
  unfold kj34_3
  generalize @J34_3 = Q34_3 at h ⊢
  unfold kj34_2
  generalize @J34_2 = Q34_2 at h ⊢
  refine code2_sound ok_mono _ _ _ ?_
  refine kmp ?_ h
  generalize Ok Try.prog = C
  unfold en34
  as_aux_lemma => kernel_rfl

noncomputable def J34_0 (x0 : LV) (g : LHeap)  (K : LV → LHeap → Prop) : Prop :=
  J34_1 x0 .nils g  K
abbrev kj34_0  (K : LV → LHeap → Prop) : LSt → Prop := fun st => J34_0 (st.tm 0) st.g  K
theorem J34_0_ok  (K : LV → LHeap → Prop) (tm : Nat → LV) (g : LHeap) (h : J34_0 (tm 0) g  K) : codeL Try.prog (Ok Try.prog) (nd34 [1]) ⟨tm, g⟩ (en34 K) := by
  refine seq_i (a := nd34 [1, 0]) (b := nd34 [1, 1]) (k' := kj34_1  K) (by kernel_rfl) (fun st h => J34_1_ok  K st.tm st.g h) ?_
  try unfold J34_0 at h
  unfold kj34_1
  generalize @J34_1 = Q34_1 at h ⊢
  refine code2_sound ok_mono _ _ _ ?_
  refine kmp ?_ h
  generalize Ok Try.prog = C
  unfold en34
  as_aux_lemma => kernel_rfl

noncomputable def F34 (x0 : LV) (g : LHeap) (K : LV → LHeap → Prop) : Prop :=
  J34_0 x0 g  K
theorem ok34 {x0 : LV} {g : LHeap} {K : LV → LHeap → Prop} (h : g.Wf → (∀ v ∈ ([x0] : List LV), ∀ b ∈ v.objs, b < g.next) → F34 x0 g K) : Ok Try.prog 34 [x0] g K := by
  refine ok_fw Try.mixed Try.func34 (by kernel_rfl) (by kernel_rfl) (c := nd34 []) (by kernel_rfl) fun wf lt => ?_
  rw [← en34_eq]
  replace h := h wf lt
  generalize hs : startL _ = tm
  replace h : F34 (tm 0) g K := by rw [← hs]; exact h
  refine seq_i (a := nd34 [0]) (b := nd34 [1]) (k' := kj34_0  K) (by kernel_rfl) (fun st h => J34_0_ok  K st.tm st.g h) ?_
  try unfold F34 at h
  unfold kj34_0
  generalize @J34_0 = Q34_0 at h ⊢
  refine code2_sound ok_mono _ _ _ ?_
  refine kmp ?_ h
  generalize Ok Try.prog = C
  unfold en34
  as_aux_lemma => kernel_rfl

/-! (*parapet/buf.Cache).Kept (11 slots) -/
noncomputable def en35 (K : LV → LHeap → Prop) : LEx → LSt → Prop := fun e st => match e with
  | .exit _ => False
  | _ => K (st.tm 2) st.g
theorem en35_eq (K : LV → LHeap → Prop) : en35 K = endL Try.prog Try.f35 K := by
  funext e st
  cases e <;> kernel_rfl
noncomputable def nd35 (p : List Nat) : Code := subC p (bodyC Try.prog 35)
noncomputable def F35 (x0 : LV) (g : LHeap) (K : LV → LHeap → Prop) : Prop :=
  Ok Try.prog 44 [x0] g fun t4 g =>
  vK (unL .not t4) fun t5 =>
  ifB t5 (
  K .nils g) (
  vK (nilCheckL x0) fun t7 =>
  vK (fieldAddrL 3 t7) fun t8 =>
  vK (loadV none t8 g) fun t9 =>
  Ok Try.prog 64 [t9] g fun t10 g =>
  K t10 g)
theorem ok35 {x0 : LV} {g : LHeap} {K : LV → LHeap → Prop} (h : g.Wf → (∀ v ∈ ([x0] : List LV), ∀ b ∈ v.objs, b < g.next) → F35 x0 g K) : Ok Try.prog 35 [x0] g K := by
  refine ok_fw Try.mixed Try.func35 (by kernel_rfl) (by kernel_rfl) (c := nd35 []) (by kernel_rfl) fun wf lt => ?_
  rw [← en35_eq]
  replace h := h wf lt
  generalize hs : startL _ = tm
  replace h : F35 (tm 0) g K := by rw [← hs]; exact h
  try unfold F35 at h
  refine code2_sound ok_mono _ _ _ ?_
  refine kmp ?_ h
  generalize Ok Try.prog = C
  unfold en35
  as_aux_lemma => kernel_rfl

/-! (*parapet/buf.Cache).made (12 slots) -/
noncomputable def en44 (K : LV → LHeap → Prop) : LEx → LSt → Prop := fun e st => match e with
  | .exit _ => False
  | _ => K (st.tm 2) st.g
theorem en44_eq (K : LV → LHeap → Prop) : en44 K = endL Try.prog Try.f44 K := by
  funext e st
  cases e <;> kernel_rfl
noncomputable def nd44 (p : List Nat) : Code := subC p (bodyC Try.prog 44)
noncomputable def F44 (x0 : LV) (g : LHeap) (K : LV → LHeap → Prop) : Prop :=
  vK (binL Try.prog .neq 28 true x0 .nilp) fun t4 =>
  gd t4 true g (fun K => K x0 g) fun t6 g =>
  gd t4 true g (fun K => vK (nilCheckL t6) fun v => K v g) fun t7 g =>
  gd t4 true g (fun K => vK (fieldAddrL 0 t7) fun v => K v g) fun t8 g =>
  gd t4 true g (fun K => vK (loadV none t8 g) fun v => K v g) fun t9 g =>
  gd t4 true g (fun K => vK (binL Try.prog .neq 23 true t9 .nilp) fun v => K v g) fun t10 g =>
  vK (pickL t4 t10 (.bool false)) fun t11 =>
  K t11 g
theorem ok44 {x0 : LV} {g : LHeap} {K : LV → LHeap → Prop} (h : g.Wf → (∀ v ∈ ([x0] : List LV), ∀ b ∈ v.objs, b < g.next) → F44 x0 g K) : Ok Try.prog 44 [x0] g K := by
  refine ok_fw Try.mixed Try.func44 (by kernel_rfl) (by kernel_rfl) (c := nd44 []) (by kernel_rfl) fun wf lt => ?_
  rw [← en44_eq]
  replace h := h wf lt
  generalize hs : startL _ = tm
  replace h : F44 (tm 0) g K := by rw [← hs]; exact h
  try unfold F44 at h
  refine code2_sound ok_mono _ _ _ ?_
  refine kmp ?_ h
  generalize Ok Try.prog = C
  unfold en44
  as_aux_lemma => kernel_rfl

/-! (*parapet/buf.Cache).last (17 slots) -/
noncomputable def en45 (K : LV → LHeap → Prop) : LEx → LSt → Prop := fun e st => match e with
  | .exit _ => False
  | _ => K (.tuple []) st.g
theorem en45_eq (K : LV → LHeap → Prop) : en45 K = endL Try.prog Try.f45 K := by
  funext e st
  cases e <;> kernel_rfl
noncomputable def nd45 (p : List Nat) : Code := subC p (bodyC Try.prog 45)
noncomputable def F45 (x0 x1 : LV) (g : LHeap) (K : LV → LHeap → Prop) : Prop :=
  Ok Try.prog 50 [x0, x1] g fun t6 g =>
  vK (nilCheckL x0) fun t9 =>
  vK (fieldAddrL 3 t9) fun t10 =>
  vK (loadV none t10 g) fun t11 =>
  oK (buildSliceL Try.prog 50 1 [(0, x1)] g) fun t13 g =>
  oK (builtinL Try.prog .append [50, 50] [t11, t13] g) fun t14 g =>
  vK (nilCheckL x0) fun t15 =>
  vK (fieldAddrL 3 t15) fun t16 =>
  gK (storeV 1 t16 t14 g) fun g =>
  K (.tuple []) g
theorem ok45 {x0 x1 : LV} {g : LHeap} {K : LV → LHeap → Prop} (h : g.Wf → (∀ v ∈ ([x0, x1] : List LV), ∀ b ∈ v.objs, b < g.next) → F45 x0 x1 g K) : Ok Try.prog 45 [x0, x1] g K := by
  refine ok_fw Try.mixed Try.func45 (by kernel_rfl) (by kernel_rfl) (c := nd45 []) (by kernel_rfl) fun wf lt => ?_
  rw [← en45_eq]
  replace h := h wf lt
  generalize hs : startL _ = tm
  replace h : F45 (tm 0) (tm 1) g K := by rw [← hs]; exact h
  try unfold F45 at h
  refine code2_sound ok_mono _ _ _ ?_
  refine kmp ?_ h
  generalize Ok Try.prog = C
  unfold en45
  as_aux_lemma => kernel_rfl

/-! (*parapet/buf.Cache).makeRoom (53 slots) -/
noncomputable def en48 (K : LV → LHeap → Prop) : LEx → LSt → Prop := fun e st => match e with
  | .exit _ => False
  | _ => K (st.tm 2) st.g
theorem en48_eq (K : LV → LHeap → Prop) : en48 K = endL Try.prog Try.f48 K := by
  funext e st
  cases e <;> kernel_rfl
noncomputable def nd48 (p : List Nat) : Code := subC p (bodyC Try.prog 48)
noncomputable def F48 (x0 : LV) (g : LHeap) (K : LV → LHeap → Prop) : Prop :=
  oK (newL x0 g) fun t1 g =>
  vK (loadV none t1 g) fun t4 =>
  vK (nilCheckL t4) fun t5 =>
  vK (fieldAddrL 3 t5) fun t6 =>
  vK (loadV none t6 g) fun t7 =>
  vK (lenL Try.prog 50 t7 g) fun t8 =>
  vK (loadV none t1 g) fun t9 =>
  vK (nilCheckL t9) fun t10 =>
  vK (fieldAddrL 1 t10) fun t11 =>
  vK (loadV none t11 g) fun t12 =>
  vK (binL Try.prog .lss 3 false t8 t12) fun t13 =>
  ifB t13 (
  K (.bool true) g) (
  vK (loadV none t1 g) fun t14 =>
  vK (nilCheckL t14) fun t15 =>
  vK (fieldAddrL 3 t15) fun t16 =>
  vK (loadV none t16 g) fun t17 =>
  Ok Try.prog 76 [t17, (.func (.func 77) [] [t1])] g fun t19 g =>
  vK (binL Try.prog .lss 3 true t19 (.int .i64 (0))) fun t21 =>
  ifB t21 (
  K (.bool false) g) (
  vK (loadV none t1 g) fun t22 =>
  vK (nilCheckL t22) fun t23 =>
  vK (fieldAddrL 2 t23) fun t24 =>
  vK (loadV none t24 g) fun t25 =>
  vK (loadV none t1 g) fun t26 =>
  vK (nilCheckL t26) fun t27 =>
  vK (fieldAddrL 3 t27) fun t28 =>
  vK (loadV none t28 g) fun t29 =>
  vK (ixAddrL none 1 t29 t19) fun t31 =>
  vK (loadV none t31 g) fun t32 =>
  ((oK (builtinL Try.prog .delete [89, 3] [t25, t32] g) fun u g =>
  
  vK (loadV none t1 g) fun t33 =>
  vK (loadV none t1 g) fun t34 =>
  vK (nilCheckL t34) fun t35 =>
  vK (fieldAddrL 3 t35) fun t36 =>
  vK (loadV none t36 g) fun t37 =>
  vK (binL Try.prog .add 3 true t19 (.int .i64 (1))) fun t40 =>
  ((Ok Try.prog 78 [t37, t19, t40] g fun t41 g =>
  ((loadV none t1 g) = some t33 ∧ 
  vK (nilCheckL t33) fun t42 =>
  vK (fieldAddrL 3 t42) fun t43 =>
  ((gK (storeV 1 t43 t41 g) fun g =>
  
  vK (loadV none t1 g) fun t44 =>
  vK (nilCheckL t44) fun t45 =>
  vK (fieldAddrL 4 t45) fun t46 =>
  vK (fieldAddrL 2 t46) fun t47 =>
  vK (loadV none t47 g) fun t48 =>
  vK (binL Try.prog .add 3 true t48 (.int .i64 (1))) fun t49 =>
  vK (nilCheckL t44) fun t50 =>
  vK (fieldAddrL 4 t50) fun t51 =>
  vK (fieldAddrL 2 t51) fun t52 =>
  gK (storeV 1 t52 t49 g) fun g =>
  K (.bool true) g) ∧ True))) ∧ True)) ∧ True)))
theorem ok48 {x0 : LV} {g : LHeap} {K : LV → LHeap → Prop} (h : g.Wf → (∀ v ∈ ([x0] : List LV), ∀ b ∈ v.objs, b < g.next) → F48 x0 g K) : Ok Try.prog 48 [x0] g K := by
  refine ok_fw Try.mixed Try.func48 (by kernel_rfl) (by kernel_rfl) (c := nd48 []) (by kernel_rfl) fun wf lt => ?_
  rw [← en48_eq]
  replace h := h wf lt
  generalize hs : startL _ = tm
  replace h : F48 (tm 0) g K := by rw [← hs]; exact h
  try unfold F48 at h
  refine code2_sound ok_mono _ _ _ ?_
  refine kmp ?_ h
  generalize Ok Try.prog = C
  unfold en48
  as_aux_lemma => kernel_rfl

/-! (*parapet/buf.Cache).drop (13 slots) -/
noncomputable def en50 (K : LV → LHeap → Prop) : LEx → LSt → Prop := fun e st => match e with
  | .exit _ => False
  | _ => K (.tuple []) st.g
theorem en50_eq (K : LV → LHeap → Prop) : en50 K = endL Try.prog Try.f50 K := by
  funext e st
  cases e <;> kernel_rfl
noncomputable def nd50 (p : List Nat) : Code := subC p (bodyC Try.prog 50)
noncomputable def F50 (x0 x1 : LV) (g : LHeap) (K : LV → LHeap → Prop) : Prop :=
  oK (newL x1 g) fun t3 g =>
  vK (nilCheckL x0) fun t6 =>
  vK (fieldAddrL 3 t6) fun t7 =>
  vK (loadV none t7 g) fun t8 =>
  Ok Try.prog 79 [t8, (.func (.func 80) [] [t3])] g fun t10 g =>
  vK (nilCheckL x0) fun t11 =>
  vK (fieldAddrL 3 t11) fun t12 =>
  gK (storeV 1 t12 t10 g) fun g =>
  K (.tuple []) g
theorem ok50 {x0 x1 : LV} {g : LHeap} {K : LV → LHeap → Prop} (h : g.Wf → (∀ v ∈ ([x0, x1] : List LV), ∀ b ∈ v.objs, b < g.next) → F50 x0 x1 g K) : Ok Try.prog 50 [x0, x1] g K := by
  refine ok_fw Try.mixed Try.func50 (by kernel_rfl) (by kernel_rfl) (c := nd50 []) (by kernel_rfl) fun wf lt => ?_
  rw [← en50_eq]
  replace h := h wf lt
  generalize hs : startL _ = tm
  replace h : F50 (tm 0) (tm 1) g K := by rw [← hs]; exact h
  try unfold F50 at h
  refine code2_sound ok_mono _ _ _ ?_
  refine kmp ?_ h
  generalize Ok Try.prog = C
  unfold en50
  as_aux_lemma => kernel_rfl

/-! (*parapet/buf.Cache).makeRoom$1 (14 slots) -/
noncomputable def en77 (K : LV → LHeap → Prop) : LEx → LSt → Prop := fun e st => match e with
  | .exit _ => False
  | _ => K (st.tm 3) st.g
theorem en77_eq (K : LV → LHeap → Prop) : en77 K = endL Try.prog Try.f77 K := by
  funext e st
  cases e <;> kernel_rfl
noncomputable def nd77 (p : List Nat) : Code := subC p (bodyC Try.prog 77)
noncomputable def F77 (x0 x1 : LV) (g : LHeap) (K : LV → LHeap → Prop) : Prop :=
  vK (loadV none x1 g) fun t4 =>
  vK (nilCheckL t4) fun t5 =>
  vK (fieldAddrL 2 t5) fun t6 =>
  vK (loadV none t6 g) fun t7 =>
  vK (lookupL Try.prog 89 t7 x0 false g) fun t9 =>
  vK (nilCheckL t9) fun t10 =>
  vK (fieldAddrL 1 t10) fun t11 =>
  vK (loadV none t11 g) fun t12 =>
  vK (unL .not t12) fun t13 =>
  K t13 g
theorem ok77 {x0 x1 : LV} {g : LHeap} {K : LV → LHeap → Prop} (h : g.Wf → (∀ v ∈ ([x0, x1] : List LV), ∀ b ∈ v.objs, b < g.next) → F77 x0 x1 g K) : Ok Try.prog 77 [x0, x1] g K := by
  refine ok_fw Try.mixed Try.func77 (by kernel_rfl) (by kernel_rfl) (c := nd77 []) (by kernel_rfl) fun wf lt => ?_
  rw [← en77_eq]
  replace h := h wf lt
  generalize hs : startL _ = tm
  replace h : F77 (tm 0) (tm 1) g K := by rw [← hs]; exact h
  try unfold F77 at h
  refine code2_sound ok_mono _ _ _ ?_
  refine kmp ?_ h
  generalize Ok Try.prog = C
  unfold en77
  as_aux_lemma => kernel_rfl

/-! (*parapet/buf.Cache).drop$1 (7 slots) -/
noncomputable def en80 (K : LV → LHeap → Prop) : LEx → LSt → Prop := fun e st => match e with
  | .exit _ => False
  | _ => K (st.tm 3) st.g
theorem en80_eq (K : LV → LHeap → Prop) : en80 K = endL Try.prog Try.f80 K := by
  funext e st
  cases e <;> kernel_rfl
noncomputable def nd80 (p : List Nat) : Code := subC p (bodyC Try.prog 80)
noncomputable def F80 (x0 x1 : LV) (g : LHeap) (K : LV → LHeap → Prop) : Prop :=
  vK (loadV none x1 g) fun t5 =>
  vK (binL Try.prog .eql 3 false x0 t5) fun t6 =>
  K t6 g
theorem ok80 {x0 x1 : LV} {g : LHeap} {K : LV → LHeap → Prop} (h : g.Wf → (∀ v ∈ ([x0, x1] : List LV), ∀ b ∈ v.objs, b < g.next) → F80 x0 x1 g K) : Ok Try.prog 80 [x0, x1] g K := by
  refine ok_fw Try.mixed Try.func80 (by kernel_rfl) (by kernel_rfl) (c := nd80 []) (by kernel_rfl) fun wf lt => ?_
  rw [← en80_eq]
  replace h := h wf lt
  generalize hs : startL _ = tm
  replace h : F80 (tm 0) (tm 1) g K := by rw [← hs]; exact h
  try unfold F80 at h
  refine code2_sound ok_mono _ _ _ ?_
  refine kmp ?_ h
  generalize Ok Try.prog = C
  unfold en80
  as_aux_lemma => kernel_rfl

/-! slices.Clone[[]byte,byte] (8 slots) -/
noncomputable def en46 (K : LV → LHeap → Prop) : LEx → LSt → Prop := fun e st => match e with
  | .exit _ => False
  | _ => K (st.tm 2) st.g
theorem en46_eq (K : LV → LHeap → Prop) : en46 K = endL Try.prog Try.f46 K := by
  funext e st
  cases e <;> kernel_rfl
noncomputable def nd46 (p : List Nat) : Code := subC p (bodyC Try.prog 46)
noncomputable def F46 (x0 : LV) (g : LHeap) (K : LV → LHeap → Prop) : Prop :=
  vK (binL Try.prog .eql 33 true x0 .nils) fun t4 =>
  ifB t4 (
  K .nils g) (
  oK (buildSliceL Try.prog 33 0 [] g) fun t5 g =>
  oK (builtinL Try.prog .append [33, 33] [t5, x0] g) fun t7 g =>
  K t7 g)
theorem ok46 {x0 : LV} {g : LHeap} {K : LV → LHeap → Prop} (h : g.Wf → (∀ v ∈ ([x0] : List LV), ∀ b ∈ v.objs, b < g.next) → F46 x0 g K) : Ok Try.prog 46 [x0] g K := by
  refine ok_fw Try.mixed Try.func46 (by kernel_rfl) (by kernel_rfl) (c := nd46 []) (by kernel_rfl) fun wf lt => ?_
  rw [← en46_eq]
  replace h := h wf lt
  generalize hs : startL _ = tm
  replace h : F46 (tm 0) g K := by rw [← hs]; exact h
  try unfold F46 at h
  refine code2_sound ok_mono _ _ _ ?_
  refine kmp ?_ h
  generalize Ok Try.prog = C
  unfold en46
  as_aux_lemma => kernel_rfl

/-! slices.Clone[[]int,int] (8 slots) -/
noncomputable def en64 (K : LV → LHeap → Prop) : LEx → LSt → Prop := fun e st => match e with
  | .exit _ => False
  | _ => K (st.tm 2) st.g
theorem en64_eq (K : LV → LHeap → Prop) : en64 K = endL Try.prog Try.f64 K := by
  funext e st
  cases e <;> kernel_rfl
noncomputable def nd64 (p : List Nat) : Code := subC p (bodyC Try.prog 64)
noncomputable def F64 (x0 : LV) (g : LHeap) (K : LV → LHeap → Prop) : Prop :=
  vK (binL Try.prog .eql 50 true x0 .nils) fun t4 =>
  ifB t4 (
  K .nils g) (
  oK (buildSliceL Try.prog 50 0 [] g) fun t5 g =>
  oK (builtinL Try.prog .append [50, 50] [t5, x0] g) fun t7 g =>
  K t7 g)
theorem ok64 {x0 : LV} {g : LHeap} {K : LV → LHeap → Prop} (h : g.Wf → (∀ v ∈ ([x0] : List LV), ∀ b ∈ v.objs, b < g.next) → F64 x0 g K) : Ok Try.prog 64 [x0] g K := by
  refine ok_fw Try.mixed Try.func64 (by kernel_rfl) (by kernel_rfl) (c := nd64 []) (by kernel_rfl) fun wf lt => ?_
  rw [← en64_eq]
  replace h := h wf lt
  generalize hs : startL _ = tm
  replace h : F64 (tm 0) g K := by rw [← hs]; exact h
  try unfold F64 at h
  refine code2_sound ok_mono _ _ _ ?_
  refine kmp ?_ h
  generalize Ok Try.prog = C
  unfold en64
  as_aux_lemma => kernel_rfl

/-! slices.IndexFunc[[]int,int] (19 slots) -/
noncomputable def en76 (K : LV → LHeap → Prop) : LEx → LSt → Prop := fun e st => match e with
  | .exit _ => False
  | _ => K (st.tm 4) st.g
theorem en76_eq (K : LV → LHeap → Prop) : en76 K = endL Try.prog Try.f76 K := by
  funext e st
  cases e <;> kernel_rfl
noncomputable def nd76 (p : List Nat) : Code := subC p (bodyC Try.prog 76)
noncomputable def J76_1 (g : LHeap)  (K : LV → LHeap → Prop) : Prop :=
  K (.int .i64 (-1)) g
abbrev kj76_1  (K : LV → LHeap → Prop) : LSt → Prop := fun st => J76_1  st.g  K
theorem J76_1_ok  (K : LV → LHeap → Prop) (tm : Nat → LV) (g : LHeap) (h : J76_1  g  K) : codeL Try.prog (Ok Try.prog) (nd76 [1, 1]) ⟨tm, g⟩ (en76 K) := by
  try unfold J76_1 at h
  refine code2_sound ok_mono _ _ _ ?_
  refine kmp ?_ h
  generalize Ok Try.prog = C
  unfold en76
  as_aux_lemma => kernel_rfl

noncomputable def L76_3 (x0 x1 x7 : LV) (x8 : LV) (g : LHeap) (N3 : LV → LHeap → Prop) (K : LV → LHeap → Prop) : Prop :=
  vK (binL Try.prog .lss 3 false x8 x7) fun t9 =>
  ifB t9 (
  vK (ixAddrL none 1 x0 x8) fun t14 =>
  vK (loadV none t14 g) fun t15 =>
  callV Try.prog (Ok Try.prog) x1 [t15] g fun t16 g =>
  ifB t16 (
  K x8 g) (
  vK (binL Try.prog .add 3 true x8 (.int .i64 (1))) fun t18 =>
  N3 t18 g)) (
  J76_1  g  K)
theorem L76_3_ok (R3 : LV × LV × LV → LV → LHeap → Prop) (K : LV → LHeap → Prop) (tm : Nat → LV) (g : LHeap) (h : L76_3 (tm 0) (tm 1) (tm 7) (tm 8) g (fun s g => R3 ((tm 0), (tm 1), (tm 7)) s g) K) : codeL Try.prog (Ok Try.prog) (nd76 [1, 0, 1, 0, 0]) ⟨tm, g⟩ (roundK (fun tm : Nat → LV => (tm 0, tm 1, tm 7)) (fun tm : Nat → LV => tm 8) R3 (exitL 0 (thenL (kj76_1  K) (en76 K)))) := by
  try unfold L76_3 at h
  unfold kj76_1
  generalize @J76_1 = Q76_1 at h ⊢
  refine code2_sound ok_mono _ _ _ ?_
  refine kmp ?_ h
  generalize Ok Try.prog = C
  unfold en76
  as_aux_lemma => kernel_rfl

noncomputable def J76_2 (x0 x1 x7 x8 : LV) (g : LHeap)  (K : LV → LHeap → Prop) : Prop :=
  loopP (fun s g N => L76_3 x0 x1 x7 s g N  K) x8 g
abbrev kj76_2  (K : LV → LHeap → Prop) : LSt → Prop := fun st => J76_2 (st.tm 0) (st.tm 1) (st.tm 7) (st.tm 8) st.g  K
theorem J76_2_ok  (K : LV → LHeap → Prop) (tm : Nat → LV) (g : LHeap) (h : J76_2 (tm 0) (tm 1) (tm 7) (tm 8) g  K) : codeL Try.prog (Ok Try.prog) (nd76 [1, 0, 1]) ⟨tm, g⟩ (thenL (kj76_1  K) (en76 K)) := by
  refine block_i (b := nd76 [1, 0, 1, 0]) (i := 0) (by kernel_rfl) ?_
  exact loop_glue (b := nd76 [1, 0, 1, 0, 0]) (by kernel_rfl) (fun tm : Nat → LV => (tm 0, tm 1, tm 7)) (fun tm : Nat → LV => tm 8) (fun a s g N => L76_3 a.1 a.2.1 a.2.2 s g N  K) (fun tm g R h => L76_3_ok R  K tm g h) tm g h

noncomputable def J76_0 (x0 x1 : LV) (g : LHeap)  (K : LV → LHeap → Prop) : Prop :=
  oK (builtinL Try.prog .len [50] [x0] g) fun t7 g =>
  J76_2 x0 x1 t7 (.int .i64 (0)) g  K
abbrev kj76_0  (K : LV → LHeap → Prop) : LSt → Prop := fun st => J76_0 (st.tm 0) (st.tm 1) st.g  K
theorem J76_0_ok  (K : LV → LHeap → Prop) (tm : Nat → LV) (g : LHeap) (h : J76_0 (tm 0) (tm 1) g  K) : codeL Try.prog (Ok Try.prog) (nd76 [1]) ⟨tm, g⟩ (en76 K) := by
  refine seq_i (a := nd76 [1, 0]) (b := nd76 [1, 1]) (k' := kj76_1  K) (by kernel_rfl) (fun st h => J76_1_ok  K st.tm st.g h) ?_
  refine seq_i (a := nd76 [1, 0, 0]) (b := nd76 [1, 0, 1]) (k' := kj76_2  K) (by kernel_rfl) (fun st h => J76_2_ok  K st.tm st.g h) ?_
  try unfold J76_0 at h
  unfold kj76_2
  generalize @J76_2 = Q76_2 at h ⊢
  unfold kj76_1
  generalize @J76_1 = Q76_1 at h ⊢
  refine code2_sound ok_mono _ _ _ ?_
  refine kmp ?_ h
  generalize Ok Try.prog = C
  unfold en76
  as_aux_lemma => kernel_rfl

noncomputable def F76 (x0 x1 : LV) (g : LHeap) (K : LV → LHeap → Prop) : Prop :=
  J76_0 x0 x1 g  K
theorem ok76 {x0 x1 : LV} {g : LHeap} {K : LV → LHeap → Prop} (h : g.Wf → (∀ v ∈ ([x0, x1] : List LV), ∀ b ∈ v.objs, b < g.next) → F76 x0 x1 g K) : Ok Try.prog 76 [x0, x1] g K := by
  refine ok_fw Try.mixed Try.func76 (by kernel_rfl) (by kernel_rfl) (c := nd76 []) (by kernel_rfl) fun wf lt => ?_
  rw [← en76_eq]
  replace h := h wf lt
  generalize hs : startL _ = tm
  replace h : F76 (tm 0) (tm 1) g K := by rw [← hs]; exact h
  refine seq_i (a := nd76 [0]) (b := nd76 [1]) (k' := kj76_0  K) (by kernel_rfl) (fun st h => J76_0_ok  K st.tm st.g h) ?_
  try unfold F76 at h
  unfold kj76_0
  generalize @J76_0 = Q76_0 at h ⊢
  refine code2_sound ok_mono _ _ _ ?_
  refine kmp ?_ h
  generalize Ok Try.prog = C
  unfold en76
  as_aux_lemma => kernel_rfl

/-! slices.Delete[[]int,int] (33 slots) -/
noncomputable def en78 (K : LV → LHeap → Prop) : LEx → LSt → Prop := fun e st => match e with
  | .exit _ => False
  | _ => K (st.tm 6) st.g
theorem en78_eq (K : LV → LHeap → Prop) : en78 K = endL Try.prog Try.f78 K := by
  funext e st
  cases e <;> kernel_rfl
noncomputable def nd78 (p : List Nat) : Code := subC p (bodyC Try.prog 78)
noncomputable def F78 (x0 x1 x2 : LV) (g : LHeap) (K : LV → LHeap → Prop) : Prop :=
  oK (builtinL Try.prog .len [50] [x0] g) fun t12 g =>
  vK (cutT Try.prog 50 x0 (some x1) (some x2) (some t12) (limL x0 g)) fun t13 =>
  vK (binL Try.prog .eql 3 false x1 x2) fun t16 =>
  ifB t16 (
  K x0 g) (
  oK (builtinL Try.prog .len [50] [x0] g) fun t19 g =>
  vK (cutT Try.prog 50 x0 none (some x1) none (limL x0 g)) fun t22 =>
  vK (cutT Try.prog 50 x0 (some x2) none none (limL x0 g)) fun t25 =>
  ((oK (builtinL Try.prog .append [50, 50] [t22, t25] g) fun t26 g =>
  
  oK (builtinL Try.prog .len [50] [t26] g) fun t29 g =>
  vK (cutT Try.prog 50 t26 (some t29) (some t19) none (limL t26 g)) fun t31 =>
  oK (builtinL Try.prog .clear [50] [t31] g) fun u g =>
  K t26 g) ∧ True))
theorem ok78 {x0 x1 x2 : LV} {g : LHeap} {K : LV → LHeap → Prop} (h : g.Wf → (∀ v ∈ ([x0, x1, x2] : List LV), ∀ b ∈ v.objs, b < g.next) → F78 x0 x1 x2 g K) : Ok Try.prog 78 [x0, x1, x2] g K := by
  refine ok_fw Try.mixed Try.func78 (by kernel_rfl) (by kernel_rfl) (c := nd78 []) (by kernel_rfl) fun wf lt => ?_
  rw [← en78_eq]
  replace h := h wf lt
  generalize hs : startL _ = tm
  replace h : F78 (tm 0) (tm 1) (tm 2) g K := by rw [← hs]; exact h
  try unfold F78 at h
  refine code2_sound ok_mono _ _ _ ?_
  refine kmp ?_ h
  generalize Ok Try.prog = C
  unfold en78
  as_aux_lemma => kernel_rfl

/-! slices.DeleteFunc[[]int,int] (42 slots) -/
noncomputable def en79 (K : LV → LHeap → Prop) : LEx → LSt → Prop := fun e st => match e with
  | .exit _ => False
  | _ => K (st.tm 4) st.g
theorem en79_eq (K : LV → LHeap → Prop) : en79 K = endL Try.prog Try.f79 K := by
  funext e st
  cases e <;> kernel_rfl
noncomputable def nd79 (p : List Nat) : Code := subC p (bodyC Try.prog 79)
noncomputable def J79_3 (x0 x5 : LV) (g : LHeap)  (K : LV → LHeap → Prop) : Prop :=
  vK (cutT Try.prog 50 x0 (some x5) none none (limL x0 g)) fun t38 =>
  oK (builtinL Try.prog .clear [50] [t38] g) fun u g =>
  vK (cutT Try.prog 50 x0 none (some x5) none (limL x0 g)) fun t41 =>
  K t41 g
abbrev kj79_3  (K : LV → LHeap → Prop) : LSt → Prop := fun st => J79_3 (st.tm 0) (st.tm 5) st.g  K
theorem J79_3_ok  (K : LV → LHeap → Prop) (tm : Nat → LV) (g : LHeap) (h : J79_3 (tm 0) (tm 5) g  K) : codeL Try.prog (Ok Try.prog) (nd79 [1, 1, 1, 1]) ⟨tm, g⟩ (en79 K) := by
  try unfold J79_3 at h
  refine code2_sound ok_mono _ _ _ ?_
  refine kmp ?_ h
  generalize Ok Try.prog = C
  unfold en79
  as_aux_lemma => kernel_rfl

noncomputable def L79_5 (x0 x1 : LV) (x5 x6 : LV) (g : LHeap) (N5 : LV × LV → LHeap → Prop) (K : LV → LHeap → Prop) : Prop :=
  oK (builtinL Try.prog .len [50] [x0] g) fun t18 g =>
  vK (binL Try.prog .lss 3 false x6 t18) fun t19 =>
  ifB t19 (
  vK (ixAddrL none 1 x0 x6) fun t24 =>
  vK (loadV none t24 g) fun t25 =>
  callV Try.prog (Ok Try.prog) x1 [t25] g fun t28 g =>
  vK (unL .not t28) fun t29 =>
  ifB t29 (
  vK (ixAddrL none 1 x0 x5) fun t33 =>
  gK (storeV 1 t33 t25 g) fun g =>
  vK (binL Try.prog .add 3 true x5 (.int .i64 (1))) fun t35 =>
  vK (binL Try.prog .add 3 true x6 (.int .i64 (1))) fun t21 =>
  N5 (t35, t21) g) (
  vK (binL Try.prog .add 3 true x6 (.int .i64 (1))) fun t21 =>
  N5 (x5, t21) g)) (
  J79_3 x0 x5 g  K)
theorem L79_5_ok (R5 : LV × LV → LV × LV → LHeap → Prop) (K : LV → LHeap → Prop) (tm : Nat → LV) (g : LHeap) (h : L79_5 (tm 0) (tm 1) (tm 5) (tm 6) g (fun s g => R5 ((tm 0), (tm 1)) s g) K) : codeL Try.prog (Ok Try.prog) (nd79 [1, 1, 1, 0, 1, 0, 0]) ⟨tm, g⟩ (roundK (fun tm : Nat → LV => (tm 0, tm 1)) (fun tm : Nat → LV => (tm 5, tm 6)) R5 (exitL 0 (thenL (kj79_3  K) (en79 K)))) := by
  try unfold L79_5 at h
  unfold kj79_3
  generalize @J79_3 = Q79_3 at h ⊢
  refine code2_sound ok_mono _ _ _ ?_
  refine kmp ?_ h
  generalize Ok Try.prog = C
  unfold en79
  as_aux_lemma => kernel_rfl

noncomputable def J79_4 (x0 x1 x5 x6 : LV) (g : LHeap)  (K : LV → LHeap → Prop) : Prop :=
  loopP (fun s g N => L79_5 x0 x1 s.1 s.2 g N  K) (x5, x6) g
abbrev kj79_4  (K : LV → LHeap → Prop) : LSt → Prop := fun st => J79_4 (st.tm 0) (st.tm 1) (st.tm 5) (st.tm 6) st.g  K
theorem J79_4_ok  (K : LV → LHeap → Prop) (tm : Nat → LV) (g : LHeap) (h : J79_4 (tm 0) (tm 1) (tm 5) (tm 6) g  K) : codeL Try.prog (Ok Try.prog) (nd79 [1, 1, 1, 0, 1]) ⟨tm, g⟩ (thenL (kj79_3  K) (en79 K)) := by
  refine block_i (b := nd79 [1, 1, 1, 0, 1, 0]) (i := 0) (by kernel_rfl) ?_
  exact loop_glue (b := nd79 [1, 1, 1, 0, 1, 0, 0]) (by kernel_rfl) (fun tm : Nat → LV => (tm 0, tm 1)) (fun tm : Nat → LV => (tm 5, tm 6)) (fun a s g N => L79_5 a.1 a.2 s.1 s.2 g N  K) (fun tm g R h => L79_5_ok R  K tm g h) tm g h

noncomputable def J79_2 (x0 x1 x5 : LV) (g : LHeap)  (K : LV → LHeap → Prop) : Prop :=
  vK (binL Try.prog .add 3 true x5 (.int .i64 (1))) fun t15 =>
  J79_4 x0 x1 x5 t15 g  K
abbrev kj79_2  (K : LV → LHeap → Prop) : LSt → Prop := fun st => J79_2 (st.tm 0) (st.tm 1) (st.tm 5) st.g  K
theorem J79_2_ok  (K : LV → LHeap → Prop) (tm : Nat → LV) (g : LHeap) (h : J79_2 (tm 0) (tm 1) (tm 5) g  K) : codeL Try.prog (Ok Try.prog) (nd79 [1, 1, 1]) ⟨tm, g⟩ (en79 K) := by
  refine seq_i (a := nd79 [1, 1, 1, 0]) (b := nd79 [1, 1, 1, 1]) (k' := kj79_3  K) (by kernel_rfl) (fun st h => J79_3_ok  K st.tm st.g h) ?_
  refine seq_i (a := nd79 [1, 1, 1, 0, 0]) (b := nd79 [1, 1, 1, 0, 1]) (k' := kj79_4  K) (by kernel_rfl) (fun st h => J79_4_ok  K st.tm st.g h) ?_
  try unfold J79_2 at h
  unfold kj79_4
  generalize @J79_4 = Q79_4 at h ⊢
  unfold kj79_3
  generalize @J79_3 = Q79_3 at h ⊢
  refine code2_sound ok_mono _ _ _ ?_
  refine kmp ?_ h
  generalize Ok Try.prog = C
  unfold en79
  as_aux_lemma => kernel_rfl

noncomputable def J79_1 (x0 x1 x5 : LV) (g : LHeap)  (K : LV → LHeap → Prop) : Prop :=
  vK (binL Try.prog .eql 3 true x5 (.int .i64 (-1))) fun t12 =>
  ifB t12 (
  K x0 g) (
  J79_2 x0 x1 x5 g  K)
abbrev kj79_1  (K : LV → LHeap → Prop) : LSt → Prop := fun st => J79_1 (st.tm 0) (st.tm 1) (st.tm 5) st.g  K
theorem J79_1_ok  (K : LV → LHeap → Prop) (tm : Nat → LV) (g : LHeap) (h : J79_1 (tm 0) (tm 1) (tm 5) g  K) : codeL Try.prog (Ok Try.prog) (nd79 [1, 1]) ⟨tm, g⟩ (en79 K) := by
  refine seq_i (a := nd79 [1, 1, 0]) (b := nd79 [1, 1, 1]) (k' := kj79_2  K) (by kernel_rfl) (fun st h => J79_2_ok  K st.tm st.g h) ?_
  try unfold J79_1 at h
  unfold kj79_2
  generalize @J79_2 = Q79_2 at h ⊢
  refine code2_sound ok_mono _ _ _ ?_
  refine kmp ?_ h
  generalize Ok Try.prog = C
  unfold en79
  as_aux_lemma => kernel_rfl

noncomputable def J79_0 (x0 x1 : LV) (g : LHeap)  (K : LV → LHeap → Prop) : Prop :=
  Ok Try.prog 76 [x0, x1] g fun t10 g =>
  J79_1 x0 x1 t10 g  K
abbrev kj79_0  (K : LV → LHeap → Prop) : LSt → Prop := fun st => J79_0 (st.tm 0) (st.tm 1) st.g  K
theorem J79_0_ok  (K : LV → LHeap → Prop) (tm : Nat → LV) (g : LHeap) (h : J79_0 (tm 0) (tm 1) g  K) : codeL Try.prog (Ok Try.prog) (nd79 [1]) ⟨tm, g⟩ (en79 K) := by
  refine seq_i (a := nd79 [1, 0]) (b := nd79 [1, 1]) (k' := kj79_1  K) (by kernel_rfl) (fun st h => J79_1_ok  K st.tm st.g h) ?_
  try unfold J79_0 at h
  unfold kj79_1
  generalize @J79_1 = Q79_1 at h ⊢
  refine code2_sound ok_mono _ _ _ ?_
  refine kmp ?_ h
  generalize Ok Try.prog = C
  unfold en79
  as_aux_lemma => kernel_rfl

noncomputable def F79 (x0 x1 : LV) (g : LHeap) (K : LV → LHeap → Prop) : Prop :=
  J79_0 x0 x1 g  K
theorem ok79 {x0 x1 : LV} {g : LHeap} {K : LV → LHeap → Prop} (h : g.Wf → (∀ v ∈ ([x0, x1] : List LV), ∀ b ∈ v.objs, b < g.next) → F79 x0 x1 g K) : Ok Try.prog 79 [x0, x1] g K := by
  refine ok_fw Try.mixed Try.func79 (by kernel_rfl) (by kernel_rfl) (c := nd79 []) (by kernel_rfl) fun wf lt => ?_
  rw [← en79_eq]
  replace h := h wf lt
  generalize hs : startL _ = tm
  replace h : F79 (tm 0) (tm 1) g K := by rw [← hs]; exact h
  refine seq_i (a := nd79 [0]) (b := nd79 [1]) (k' := kj79_0  K) (by kernel_rfl) (fun st h => J79_0_ok  K st.tm st.g h) ?_
  try unfold F79 at h
  unfold kj79_0
  generalize @J79_0 = Q79_0 at h ⊢
  refine code2_sound ok_mono _ _ _ ?_
  refine kmp ?_ h
  generalize Ok Try.prog = C
  unfold en79
  as_aux_lemma => kernel_rfl

/-! parapet/parapetlaw15.BufSame (165 slots) -/
noncomputable def en3 (K : LV → LHeap → Prop) : LEx → LSt → Prop := fun e st => match e with
  | .exit _ => False
  | _ => K (st.tm 6) st.g
theorem en3_eq (K : LV → LHeap → Prop) : en3 K = endL Try.prog Try.f3 K := by
  funext e st
  cases e <;> kernel_rfl
noncomputable def nd3 (p : List Nat) : Code := subC p (bodyC Try.prog 3)
noncomputable def J3_7 (g : LHeap)  (K : LV → LHeap → Prop) : Prop :=
  K (.bool true) g
abbrev kj3_7  (K : LV → LHeap → Prop) : LSt → Prop := fun st => J3_7  st.g  K
theorem J3_7_ok  (K : LV → LHeap → Prop) (tm : Nat → LV) (g : LHeap) (h : J3_7  g  K) : codeL Try.prog (Ok Try.prog) (nd3 [1, 1, 1, 1, 1, 1, 1, 1]) ⟨tm, g⟩ (en3 K) := by
  try unfold J3_7 at h
  refine code2_sound ok_mono _ _ _ ?_
  refine kmp ?_ h
  generalize Ok Try.prog = C
  unfold en3
  as_aux_lemma => kernel_rfl

noncomputable def L3_9 (x2 x11 x13 : LV) (x15 : LV) (g : LHeap) (N9 : LV → LHeap → Prop) (K : LV → LHeap → Prop) : Prop :=
  oK (builtinL Try.prog .len [22] [x2] g) fun t89 g =>
  vK (binL Try.prog .lss 3 false x15 t89) fun t90 =>
  ifB t90 (
  vK (ixAddrL none 4 x2 x15) fun t95 =>
  vK (loadV (some 4) t95 g) fun t96 =>
  oK (newL (.agg [(.int .i64 (0)), (.int .i64 (0)), (.int .u8 (0)), (.int .i64 (0))]) g) fun t16 g =>
  gK (storeV 4 t16 t96 g) fun g =>
  vK (fieldAddrL 0 t16) fun t97 =>
  vK (loadV none t97 g) fun t98 =>
  vK (binL Try.prog .eql 3 true t98 (.int .i64 (1))) fun t100 =>
  ifB t100 (
  vK (fieldAddrL 1 t16) fun t103 =>
  vK (loadV none t103 g) fun t104 =>
  Ok Try.prog 13 [x11, t104] g fun t105 g =>
  vK (extractL t105 0) fun t106 =>
  vK (extractL t105 1) fun t107 =>
  vK (fieldAddrL 1 t16) fun t110 =>
  vK (loadV none t110 g) fun t111 =>
  Ok Try.prog 13 [x13, t111] g fun t112 g =>
  vK (extractL t112 0) fun t113 =>
  vK (extractL t112 1) fun t114 =>
  vK (binL Try.prog .eql 24 true t107 (.int .i64 (150))) fun t116 =>
  gd t116 false g (fun K => K t114 g) fun t118 g =>
  gd t116 false g (fun K => vK (binL Try.prog .eql 24 true t118 (.int .i64 (150))) fun v => K v g) fun t119 g =>
  vK (pickL t116 (.bool true) t119) fun t120 =>
  ifB t120 (
  K (.bool true) g) (
  vK (binL Try.prog .neq 24 false t107 t114) fun t123 =>
  gd t123 false g (fun K => K t106 g) fun t125 g =>
  gd t123 false g (fun K => K t113 g) fun t126 g =>
  gd t123 false g (fun K => Ok Try.prog 14 [t125, t126] g K) fun t127 g =>
  gd t123 false g (fun K => vK (unL .not t127) fun v => K v g) fun t128 g =>
  vK (pickL t123 (.bool true) t128) fun t129 =>
  ifB t129 (
  K (.bool false) g) (
  vK (binL Try.prog .add 3 true x15 (.int .i64 (1))) fun t92 =>
  N9 t92 g))) (
  vK (binL Try.prog .eql 3 true t98 (.int .i64 (2))) fun t131 =>
  ifB t131 (
  vK (fieldAddrL 1 t16) fun t133 =>
  vK (loadV none t133 g) fun t134 =>
  vK (fieldAddrL 2 t16) fun t135 =>
  vK (loadV none t135 g) fun t136 =>
  vK (fieldAddrL 1 t16) fun t140 =>
  vK (loadV none t140 g) fun t141 =>
  vK (fieldAddrL 2 t16) fun t142 =>
  vK (loadV none t142 g) fun t143 =>
  ((Ok Try.prog 16 [t136, (.int .i64 (0))] g fun t137 g =>
  ((loadV none t142 g) = some t143 ∧ ((loadV none t140 g) = some t141 ∧ ((loadV none t133 g) = some t134 ∧ 
  ((Ok Try.prog 15 [x11, t134, t137] g fun t138 g =>
  ((loadV none t142 g) = some t143 ∧ ((loadV none t140 g) = some t141 ∧ 
  ((Ok Try.prog 16 [t143, (.int .i64 (0))] g fun t144 g =>
  ((loadV none t140 g) = some t141 ∧ 
  ((Ok Try.prog 15 [x13, t141, t144] g fun t145 g =>
  
  vK (binL Try.prog .eql 24 true t138 (.int .i64 (150))) fun t147 =>
  gd t147 false g (fun K => K t145 g) fun t149 g =>
  gd t147 false g (fun K => vK (binL Try.prog .eql 24 true t149 (.int .i64 (150))) fun v => K v g) fun t150 g =>
  vK (pickL t147 (.bool true) t150) fun t151 =>
  ifB t151 (
  K (.bool true) g) (
  vK (binL Try.prog .neq 24 false t138 t145) fun t154 =>
  ifB t154 (
  K (.bool false) g) (
  vK (binL Try.prog .add 3 true x15 (.int .i64 (1))) fun t92 =>
  N9 t92 g))) ∧ True))) ∧ True)))) ∧ True))))) ∧ True)) (
  vK (binL Try.prog .eql 3 true t98 (.int .i64 (3))) fun t156 =>
  ifB t156 (
  vK (fieldAddrL 1 t16) fun t158 =>
  vK (loadV none t158 g) fun t159 =>
  Ok Try.prog 17 [x11, t159] g fun t160 g =>
  vK (binL Try.prog .add 3 true x15 (.int .i64 (1))) fun t92 =>
  N9 t92 g) (
  vK (binL Try.prog .eql 3 true t98 (.int .i64 (4))) fun t162 =>
  ifB t162 (
  Ok Try.prog 18 [x13] g fun t164 g =>
  vK (binL Try.prog .add 3 true x15 (.int .i64 (1))) fun t92 =>
  N9 t92 g) (
  vK (binL Try.prog .add 3 true x15 (.int .i64 (1))) fun t92 =>
  N9 t92 g))))) (
  J3_7  g  K)
theorem L3_9_ok (R9 : LV × LV × LV → LV → LHeap → Prop) (K : LV → LHeap → Prop) (tm : Nat → LV) (g : LHeap) (h : L3_9 (tm 2) (tm 11) (tm 13) (tm 15) g (fun s g => R9 ((tm 2), (tm 11), (tm 13)) s g) K) : codeL Try.prog (Ok Try.prog) (nd3 [1, 1, 1, 1, 1, 1, 1, 0, 1, 0, 0]) ⟨tm, g⟩ (roundK (fun tm : Nat → LV => (tm 2, tm 11, tm 13)) (fun tm : Nat → LV => tm 15) R9 (exitL 0 (thenL (kj3_7  K) (en3 K)))) := by
  try unfold L3_9 at h
  unfold kj3_7
  generalize @J3_7 = Q3_7 at h ⊢
  refine code3_sound ok_mono (pl := [(22, (.lt 0 false (.lt 1 false (.lt 2 true (.lt 3 false (.lt 4 false (.lt 7 false (.lt 8 false (.lt 9 true (.lt 10 false (.lt 11 true (.hv 5 (.hv 6 (.hv 12 (.hv 13 (.lt 14 false (.lt 15 false .nil)) .nil) .nil) .nil) .nil))))))))))))]) _ _ _ (by kernel_rfl) ?_
  refine kmp ?_ h
  generalize Ok Try.prog = C
  unfold en3
  as_aux_lemma => kernel_rfl

noncomputable def J3_8 (x2 x11 x13 x15 : LV) (g : LHeap)  (K : LV → LHeap → Prop) : Prop :=
  loopP (fun s g N => L3_9 x2 x11 x13 s g N  K) x15 g
abbrev kj3_8  (K : LV → LHeap → Prop) : LSt → Prop := fun st => J3_8 (st.tm 2) (st.tm 11) (st.tm 13) (st.tm 15) st.g  K
theorem J3_8_ok  (K : LV → LHeap → Prop) (tm : Nat → LV) (g : LHeap) (h : J3_8 (tm 2) (tm 11) (tm 13) (tm 15) g  K) : codeL Try.prog (Ok Try.prog) (nd3 [1, 1, 1, 1, 1, 1, 1, 0, 1]) ⟨tm, g⟩ (thenL (kj3_7  K) (en3 K)) := by
  refine block_i (b := nd3 [1, 1, 1, 1, 1, 1, 1, 0, 1, 0]) (i := 0) (by kernel_rfl) ?_
  exact loop_glue (b := nd3 [1, 1, 1, 1, 1, 1, 1, 0, 1, 0, 0]) (by kernel_rfl) (fun tm : Nat → LV => (tm 2, tm 11, tm 13)) (fun tm : Nat → LV => tm 15) (fun a s g N => L3_9 a.1 a.2.1 a.2.2 s g N  K) (fun tm g R h => L3_9_ok R  K tm g h) tm g h

noncomputable def J3_6 (x2 x11 x13 : LV) (g : LHeap)  (K : LV → LHeap → Prop) : Prop :=
  J3_8 x2 x11 x13 (.int .i64 (0)) g  K
abbrev kj3_6  (K : LV → LHeap → Prop) : LSt → Prop := fun st => J3_6 (st.tm 2) (st.tm 11) (st.tm 13) st.g  K
theorem J3_6_ok  (K : LV → LHeap → Prop) (tm : Nat → LV) (g : LHeap) (h : J3_6 (tm 2) (tm 11) (tm 13) g  K) : codeL Try.prog (Ok Try.prog) (nd3 [1, 1, 1, 1, 1, 1, 1]) ⟨tm, g⟩ (en3 K) := by
  refine seq_i (a := nd3 [1, 1, 1, 1, 1, 1, 1, 0]) (b := nd3 [1, 1, 1, 1, 1, 1, 1, 1]) (k' := kj3_7  K) (by kernel_rfl) (fun st h => J3_7_ok  K st.tm st.g h) ?_
  refine seq_i (a := nd3 [1, 1, 1, 1, 1, 1, 1, 0, 0]) (b := nd3 [1, 1, 1, 1, 1, 1, 1, 0, 1]) (k' := kj3_8  K) (by kernel_rfl) (fun st h => J3_8_ok  K st.tm st.g h) ?_
  try unfold J3_6 at h
  unfold kj3_8
  generalize @J3_8 = Q3_8 at h ⊢
  unfold kj3_7
  generalize @J3_7 = Q3_7 at h ⊢
  refine code2_sound ok_mono _ _ _ ?_
  refine kmp ?_ h
  generalize Ok Try.prog = C
  unfold en3
  as_aux_lemma => kernel_rfl

noncomputable def J3_5 (x2 x11 x12 x13 x14 : LV) (g : LHeap)  (K : LV → LHeap → Prop) : Prop :=
  vK (binL Try.prog .neq 24 true x12 (.int .i64 (0))) fun t62 =>
  gd t62 false g (fun K => K x14 g) fun t64 g =>
  gd t62 false g (fun K => vK (binL Try.prog .neq 24 true t64 (.int .i64 (0))) fun v => K v g) fun t65 g =>
  vK (pickL t62 (.bool true) t65) fun t66 =>
  gd t66 false g (fun K => K x11 g) fun t68 g =>
  gd t66 false g (fun K => vK (binL Try.prog .eql 28 true t68 .nilp) fun v => K v g) fun t69 g =>
  vK (pickL t66 (.bool true) t69) fun t70 =>
  gd t70 false g (fun K => K x13 g) fun t72 g =>
  gd t70 false g (fun K => vK (binL Try.prog .eql 28 true t72 .nilp) fun v => K v g) fun t73 g =>
  vK (pickL t70 (.bool true) t73) fun t74 =>
  ifB t74 (
  vK (binL Try.prog .eql 28 true x11 .nilp) fun t76 =>
  vK (binL Try.prog .neq 24 true x12 (.int .i64 (0))) fun t78 =>
  vK (binL Try.prog .eql 4 false t76 t78) fun t79 =>
  gd t79 true g (fun K => K x13 g) fun t81 g =>
  gd t79 true g (fun K => vK (binL Try.prog .eql 28 true t81 .nilp) fun v => K v g) fun t82 g =>
  gd t79 true g (fun K => K x14 g) fun t83 g =>
  gd t79 true g (fun K => vK (binL Try.prog .neq 24 true t83 (.int .i64 (0))) fun v => K v g) fun t84 g =>
  gd t79 true g (fun K => vK (binL Try.prog .eql 4 false t82 t84) fun v => K v g) fun t85 g =>
  vK (pickL t79 t85 (.bool false)) fun t86 =>
  K t86 g) (
  J3_6 x2 x11 x13 g  K)
abbrev kj3_5  (K : LV → LHeap → Prop) : LSt → Prop := fun st => J3_5 (st.tm 2) (st.tm 11) (st.tm 12) (st.tm 13) (st.tm 14) st.g  K
theorem J3_5_ok  (K : LV → LHeap → Prop) (tm : Nat → LV) (g : LHeap) (h : J3_5 (tm 2) (tm 11) (tm 12) (tm 13) (tm 14) g  K) : codeL Try.prog (Ok Try.prog) (nd3 [1, 1, 1, 1, 1, 1]) ⟨tm, g⟩ (en3 K) := by
  refine seq_i (a := nd3 [1, 1, 1, 1, 1, 1, 0]) (b := nd3 [1, 1, 1, 1, 1, 1, 1]) (k' := kj3_6  K) (by kernel_rfl) (fun st h => J3_6_ok  K st.tm st.g h) ?_
  try unfold J3_5 at h
  unfold kj3_6
  generalize @J3_6 = Q3_6 at h ⊢
  refine code2_sound ok_mono _ _ _ ?_
  refine kmp ?_ h
  generalize Ok Try.prog = C
  unfold en3
  as_aux_lemma => kernel_rfl

noncomputable def J3_4 (x1 x2 x9 x11 x12 : LV) (g : LHeap)  (K : LV → LHeap → Prop) : Prop :=
  Ok Try.prog 12 [x9, x1] g fun t58 g =>
  vK (extractL t58 0) fun t59 =>
  vK (extractL t58 1) fun t60 =>
  J3_5 x2 x11 x12 t59 t60 g  K
abbrev kj3_4  (K : LV → LHeap → Prop) : LSt → Prop := fun st => J3_4 (st.tm 1) (st.tm 2) (st.tm 9) (st.tm 11) (st.tm 12) st.g  K
theorem J3_4_ok  (K : LV → LHeap → Prop) (tm : Nat → LV) (g : LHeap) (h : J3_4 (tm 1) (tm 2) (tm 9) (tm 11) (tm 12) g  K) : codeL Try.prog (Ok Try.prog) (nd3 [1, 1, 1, 1, 1]) ⟨tm, g⟩ (en3 K) := by
  refine seq_i (a := nd3 [1, 1, 1, 1, 1, 0]) (b := nd3 [1, 1, 1, 1, 1, 1]) (k' := kj3_5  K) (by kernel_rfl) (fun st h => J3_5_ok  K st.tm st.g h) ?_
  try unfold J3_4 at h
  unfold kj3_5
  generalize @J3_5 = Q3_5 at h ⊢
  refine code2_sound ok_mono _ _ _ ?_
  refine kmp ?_ h
  generalize Ok Try.prog = C
  unfold en3
  as_aux_lemma => kernel_rfl

noncomputable def J3_3 (x0 x1 x2 x7 x9 : LV) (g : LHeap)  (K : LV → LHeap → Prop) : Prop :=
  Ok Try.prog 12 [x7, x0] g fun t52 g =>
  vK (extractL t52 0) fun t53 =>
  vK (extractL t52 1) fun t54 =>
  J3_4 x1 x2 x9 t53 t54 g  K
abbrev kj3_3  (K : LV → LHeap → Prop) : LSt → Prop := fun st => J3_3 (st.tm 0) (st.tm 1) (st.tm 2) (st.tm 7) (st.tm 9) st.g  K
theorem J3_3_ok  (K : LV → LHeap → Prop) (tm : Nat → LV) (g : LHeap) (h : J3_3 (tm 0) (tm 1) (tm 2) (tm 7) (tm 9) g  K) : codeL Try.prog (Ok Try.prog) (nd3 [1, 1, 1, 1]) ⟨tm, g⟩ (en3 K) := by
  refine seq_i (a := nd3 [1, 1, 1, 1, 0]) (b := nd3 [1, 1, 1, 1, 1]) (k' := kj3_4  K) (by kernel_rfl) (fun st h => J3_4_ok  K st.tm st.g h) ?_
  try unfold J3_3 at h
  unfold kj3_4
  generalize @J3_4 = Q3_4 at h ⊢
  refine code2_sound ok_mono _ _ _ ?_
  refine kmp ?_ h
  generalize Ok Try.prog = C
  unfold en3
  as_aux_lemma => kernel_rfl

noncomputable def J3_2 (x0 x1 x2 x7 x8 x9 x10 : LV) (g : LHeap)  (K : LV → LHeap → Prop) : Prop :=
  vK (binL Try.prog .neq 24 true x8 (.int .i64 (0))) fun t32 =>
  gd t32 false g (fun K => K x10 g) fun t34 g =>
  gd t32 false g (fun K => vK (binL Try.prog .neq 24 true t34 (.int .i64 (0))) fun v => K v g) fun t35 g =>
  vK (pickL t32 (.bool true) t35) fun t36 =>
  gd t36 false g (fun K => K x7 g) fun t38 g =>
  gd t36 false g (fun K => vK (binL Try.prog .eql 23 true t38 .nilp) fun v => K v g) fun t39 g =>
  vK (pickL t36 (.bool true) t39) fun t40 =>
  gd t40 false g (fun K => K x9 g) fun t42 g =>
  gd t40 false g (fun K => vK (binL Try.prog .eql 23 true t42 .nilp) fun v => K v g) fun t43 g =>
  vK (pickL t40 (.bool true) t43) fun t44 =>
  gd t44 false g (fun K => Ok Try.prog 11 [] g K) fun t46 g =>
  gd t44 false g (fun K => vK (unL .not t46) fun v => K v g) fun t47 g =>
  vK (pickL t44 (.bool true) t47) fun t48 =>
  ifB t48 (
  K (.bool false) g) (
  J3_3 x0 x1 x2 x7 x9 g  K)
abbrev kj3_2  (K : LV → LHeap → Prop) : LSt → Prop := fun st => J3_2 (st.tm 0) (st.tm 1) (st.tm 2) (st.tm 7) (st.tm 8) (st.tm 9) (st.tm 10) st.g  K
theorem J3_2_ok  (K : LV → LHeap → Prop) (tm : Nat → LV) (g : LHeap) (h : J3_2 (tm 0) (tm 1) (tm 2) (tm 7) (tm 8) (tm 9) (tm 10) g  K) : codeL Try.prog (Ok Try.prog) (nd3 [1, 1, 1]) ⟨tm, g⟩ (en3 K) := by
  refine seq_i (a := nd3 [1, 1, 1, 0]) (b := nd3 [1, 1, 1, 1]) (k' := kj3_3  K) (by kernel_rfl) (fun st h => J3_3_ok  K st.tm st.g h) ?_
  try unfold J3_2 at h
  unfold kj3_3
  generalize @J3_3 = Q3_3 at h ⊢
  refine code2_sound ok_mono _ _ _ ?_
  refine kmp ?_ h
  generalize Ok Try.prog = C
  unfold en3
  as_aux_lemma => kernel_rfl

noncomputable def J3_1 (x0 x1 x2 x7 x8 : LV) (g : LHeap)  (K : LV → LHeap → Prop) : Prop :=
  Ok Try.prog 10 [(.int .i64 (12))] g fun t28 g =>
  vK (extractL t28 0) fun t29 =>
  vK (extractL t28 1) fun t30 =>
  J3_2 x0 x1 x2 x7 x8 t29 t30 g  K
abbrev kj3_1  (K : LV → LHeap → Prop) : LSt → Prop := fun st => J3_1 (st.tm 0) (st.tm 1) (st.tm 2) (st.tm 7) (st.tm 8) st.g  K
theorem J3_1_ok  (K : LV → LHeap → Prop) (tm : Nat → LV) (g : LHeap) (h : J3_1 (tm 0) (tm 1) (tm 2) (tm 7) (tm 8) g  K) : codeL Try.prog (Ok Try.prog) (nd3 [1, 1]) ⟨tm, g⟩ (en3 K) := by
  refine seq_i (a := nd3 [1, 1, 0]) (b := nd3 [1, 1, 1]) (k' := kj3_2  K) (by kernel_rfl) (fun st h => J3_2_ok  K st.tm st.g h) ?_
  try unfold J3_1 at h
  unfold kj3_2
  generalize @J3_2 = Q3_2 at h ⊢
  refine code2_sound ok_mono _ _ _ ?_
  refine kmp ?_ h
  generalize Ok Try.prog = C
  unfold en3
  as_aux_lemma => kernel_rfl

noncomputable def J3_0 (x0 x1 x2 : LV) (g : LHeap)  (K : LV → LHeap → Prop) : Prop :=
  Ok Try.prog 10 [(.int .i64 (12))] g fun t24 g =>
  vK (extractL t24 0) fun t25 =>
  vK (extractL t24 1) fun t26 =>
  J3_1 x0 x1 x2 t25 t26 g  K
abbrev kj3_0  (K : LV → LHeap → Prop) : LSt → Prop := fun st => J3_0 (st.tm 0) (st.tm 1) (st.tm 2) st.g  K
theorem J3_0_ok  (K : LV → LHeap → Prop) (tm : Nat → LV) (g : LHeap) (h : J3_0 (tm 0) (tm 1) (tm 2) g  K) : codeL Try.prog (Ok Try.prog) (nd3 [1]) ⟨tm, g⟩ (en3 K) := by
  refine seq_i (a := nd3 [1, 0]) (b := nd3 [1, 1]) (k' := kj3_1  K) (by kernel_rfl) (fun st h => J3_1_ok  K st.tm st.g h) ?_
  try unfold J3_0 at h
  unfold kj3_1
  generalize @J3_1 = Q3_1 at h ⊢
  refine code2_sound ok_mono _ _ _ ?_
  refine kmp ?_ h
  generalize Ok Try.prog = C
  unfold en3
  as_aux_lemma => kernel_rfl

noncomputable def F3 (x0 x1 x2 : LV) (g : LHeap) (K : LV → LHeap → Prop) : Prop :=
  J3_0 x0 x1 x2 g  K
theorem ok3 {x0 x1 x2 : LV} {g : LHeap} {K : LV → LHeap → Prop} (h : g.Wf → (∀ v ∈ ([x0, x1, x2] : List LV), ∀ b ∈ v.objs, b < g.next) → F3 x0 x1 x2 g K) : Ok Try.prog 3 [x0, x1, x2] g K := by
  refine ok_fw Try.mixed Try.func3 (by kernel_rfl) (by kernel_rfl) (c := nd3 []) (by kernel_rfl) fun wf lt => ?_
  rw [← en3_eq]
  replace h := h wf lt
  generalize hs : startL _ = tm
  replace h : F3 (tm 0) (tm 1) (tm 2) g K := by rw [← hs]; exact h
  refine seq_i (a := nd3 [0]) (b := nd3 [1]) (k' := kj3_0  K) (by kernel_rfl) (fun st h => J3_0_ok  K st.tm st.g h) ?_
  try unfold F3 at h
  unfold kj3_0
  generalize @J3_0 = Q3_0 at h ⊢
  refine code2_sound ok_mono _ _ _ ?_
  refine kmp ?_ h
  generalize Ok Try.prog = C
  unfold en3
  as_aux_lemma => kernel_rfl

/-! parapet/parapetlaw15.BufHolds (131 slots) -/
noncomputable def en6 (K : LV → LHeap → Prop) : LEx → LSt → Prop := fun e st => match e with
  | .exit _ => False
  | _ => K (st.tm 4) st.g
theorem en6_eq (K : LV → LHeap → Prop) : en6 K = endL Try.prog Try.f6 K := by
  funext e st
  cases e <;> kernel_rfl
noncomputable def nd6 (p : List Nat) : Code := subC p (bodyC Try.prog 6)
noncomputable def J6_5 (g : LHeap)  (K : LV → LHeap → Prop) : Prop :=
  K (.bool true) g
abbrev kj6_5  (K : LV → LHeap → Prop) : LSt → Prop := fun st => J6_5  st.g  K
theorem J6_5_ok  (K : LV → LHeap → Prop) (tm : Nat → LV) (g : LHeap) (h : J6_5  g  K) : codeL Try.prog (Ok Try.prog) (nd6 [1, 1, 1, 1, 1, 1]) ⟨tm, g⟩ (en6 K) := by
  try unfold J6_5 at h
  refine code2_sound ok_mono _ _ _ ?_
  refine kmp ?_ h
  generalize Ok Try.prog = C
  unfold en6
  as_aux_lemma => kernel_rfl

noncomputable def J6_9 (x0 x1 x7 x9 : LV) (g : LHeap) (N7 : LV → LHeap → Prop) (K : LV → LHeap → Prop) : Prop :=
  vK (binL Try.prog .add 3 true x9 (.int .i64 (1))) fun t51 =>
  N7 t51 g
abbrev kj6_9 (R7 : LV × LV × LV → LV → LHeap → Prop) (K : LV → LHeap → Prop) : LSt → Prop := fun st => J6_9 (st.tm 0) (st.tm 1) (st.tm 7) (st.tm 9) st.g (fun s g => R7 ((st.tm 0), (st.tm 1), (st.tm 7)) s g) K
theorem J6_9_ok (R7 : LV × LV × LV → LV → LHeap → Prop) (K : LV → LHeap → Prop) (tm : Nat → LV) (g : LHeap) (h : J6_9 (tm 0) (tm 1) (tm 7) (tm 9) g (fun s g => R7 ((tm 0), (tm 1), (tm 7)) s g) K) : codeL Try.prog (Ok Try.prog) (nd6 [1, 1, 1, 1, 1, 0, 1, 0, 0, 1, 1]) ⟨tm, g⟩ (roundK (fun tm : Nat → LV => (tm 0, tm 1, tm 7)) (fun tm : Nat → LV => tm 9) R7 (exitL 0 (thenL (kj6_5  K) (en6 K)))) := by
  try unfold J6_9 at h
  unfold kj6_5
  generalize @J6_5 = Q6_5 at h ⊢
  refine code2_sound ok_mono _ _ _ ?_
  refine kmp ?_ h
  generalize Ok Try.prog = C
  unfold en6
  as_aux_lemma => kernel_rfl

noncomputable def J6_19 (x0 x1 x7 x9 x11 x12 x15 : LV) (g : LHeap) (N17 : LV → LHeap → Prop) (N7 : LV → LHeap → Prop) (K : LV → LHeap → Prop) : Prop :=
  vK (binL Try.prog .add 3 true x15 (.int .i64 (1))) fun t110 =>
  N17 t110 g
abbrev kj6_19 (R17 : LV × LV × LV × LV × LV × LV → LV → LHeap → Prop) (R7 : LV × LV × LV → LV → LHeap → Prop) (K : LV → LHeap → Prop) : LSt → Prop := fun st => J6_19 (st.tm 0) (st.tm 1) (st.tm 7) (st.tm 9) (st.tm 11) (st.tm 12) (st.tm 15) st.g (fun s g => R17 ((st.tm 0), (st.tm 1), (st.tm 7), (st.tm 9), (st.tm 11), (st.tm 12)) s g) (fun s g => R7 ((st.tm 0), (st.tm 1), (st.tm 7)) s g) K
theorem J6_19_ok (R17 : LV × LV × LV × LV × LV × LV → LV → LHeap → Prop) (R7 : LV × LV × LV → LV → LHeap → Prop) (K : LV → LHeap → Prop) (tm : Nat → LV) (g : LHeap) (h : J6_19 (tm 0) (tm 1) (tm 7) (tm 9) (tm 11) (tm 12) (tm 15) g (fun s g => R17 ((tm 0), (tm 1), (tm 7), (tm 9), (tm 11), (tm 12)) s g) (fun s g => R7 ((tm 0), (tm 1), (tm 7)) s g) K) : codeL Try.prog (Ok Try.prog) (nd6 [1, 1, 1, 1, 1, 0, 1, 0, 0, 1, 0, 0, 1, 1, 1, 1, 1, 1, 1, 0, 0, 1, 1]) ⟨tm, g⟩ (roundK (fun tm : Nat → LV => (tm 0, tm 1, tm 7, tm 9, tm 11, tm 12)) (fun tm : Nat → LV => tm 15) R17 (exitL 7 (exitL 1 (thenL (kj6_9 R7 K) (roundK (fun tm : Nat → LV => (tm 0, tm 1, tm 7)) (fun tm : Nat → LV => tm 9) R7 (exitL 0 (thenL (kj6_5  K) (en6 K)))))))) := by
  try unfold J6_19 at h
  unfold kj6_9
  generalize @J6_9 = Q6_9 at h ⊢
  unfold kj6_5
  generalize @J6_5 = Q6_5 at h ⊢
  refine code2_sound ok_mono _ _ _ ?_
  refine kmp ?_ h
  generalize Ok Try.prog = C
  unfold en6
  as_aux_lemma => kernel_rfl

noncomputable def J6_21 (x0 x1 x7 x9 x11 x12 x15 x16 : LV) (g : LHeap) (N17 : LV → LHeap → Prop) (N7 : LV → LHeap → Prop) (K : LV → LHeap → Prop) : Prop :=
  vK (unL .not x16) fun t130 =>
  ifB t130 (
  K (.bool false) g) (
  J6_19 x0 x1 x7 x9 x11 x12 x15 g N17 N7 K)
abbrev kj6_21 (R17 : LV × LV × LV × LV × LV × LV → LV → LHeap → Prop) (R7 : LV × LV × LV → LV → LHeap → Prop) (K : LV → LHeap → Prop) : LSt → Prop := fun st => J6_21 (st.tm 0) (st.tm 1) (st.tm 7) (st.tm 9) (st.tm 11) (st.tm 12) (st.tm 15) (st.tm 16) st.g (fun s g => R17 ((st.tm 0), (st.tm 1), (st.tm 7), (st.tm 9), (st.tm 11), (st.tm 12)) s g) (fun s g => R7 ((st.tm 0), (st.tm 1), (st.tm 7)) s g) K
theorem J6_21_ok (R17 : LV × LV × LV × LV × LV × LV → LV → LHeap → Prop) (R7 : LV × LV × LV → LV → LHeap → Prop) (K : LV → LHeap → Prop) (tm : Nat → LV) (g : LHeap) (h : J6_21 (tm 0) (tm 1) (tm 7) (tm 9) (tm 11) (tm 12) (tm 15) (tm 16) g (fun s g => R17 ((tm 0), (tm 1), (tm 7), (tm 9), (tm 11), (tm 12)) s g) (fun s g => R7 ((tm 0), (tm 1), (tm 7)) s g) K) : codeL Try.prog (Ok Try.prog) (nd6 [1, 1, 1, 1, 1, 0, 1, 0, 0, 1, 0, 0, 1, 1, 1, 1, 1, 1, 1, 0, 0, 1, 0, 0, 1, 1]) ⟨tm, g⟩ (exitL 8 (thenL (kj6_19 R17 R7 K) (roundK (fun tm : Nat → LV => (tm 0, tm 1, tm 7, tm 9, tm 11, tm 12)) (fun tm : Nat → LV => tm 15) R17 (exitL 7 (exitL 1 (thenL (kj6_9 R7 K) (roundK (fun tm : Nat → LV => (tm 0, tm 1, tm 7)) (fun tm : Nat → LV => tm 9) R7 (exitL 0 (thenL (kj6_5  K) (en6 K)))))))))) := by
  try unfold J6_21 at h
  unfold kj6_19
  generalize @J6_19 = Q6_19 at h ⊢
  unfold kj6_9
  generalize @J6_9 = Q6_9 at h ⊢
  unfold kj6_5
  generalize @J6_5 = Q6_5 at h ⊢
  refine code2_sound ok_mono _ _ _ ?_
  refine kmp ?_ h
  generalize Ok Try.prog = C
  unfold en6
  as_aux_lemma => kernel_rfl

noncomputable def L6_23 (x0 x1 x7 x9 x11 x12 x15 : LV) (x16 x17 : LV) (g : LHeap) (N23 : LV × LV → LHeap → Prop) (N17 : LV → LHeap → Prop) (N7 : LV → LHeap → Prop) (K : LV → LHeap → Prop) : Prop :=
  oK (builtinL Try.prog .len [50] [x12] g) fun t113 g =>
  vK (binL Try.prog .lss 3 false x17 t113) fun t114 =>
  ifB t114 (
  gdV x16 false (some x12) fun t119 =>
  gdV x16 false (some x17) fun t120 =>
  gdV x16 false (ixAddrL none 1 t119 t120) fun t121 =>
  gdV x16 false (loadV none t121 g) fun t122 =>
  gdV x16 false (some x11) fun t123 =>
  gdV x16 false (some x15) fun t124 =>
  gdV x16 false (ixAddrL none 1 t123 t124) fun t125 =>
  gdV x16 false (loadV none t125 g) fun t126 =>
  gdV x16 false (binL Try.prog .eql 3 false t122 t126) fun t127 =>
  vK (pickL x16 (.bool true) t127) fun t128 =>
  vK (binL Try.prog .add 3 true x17 (.int .i64 (1))) fun t116 =>
  N23 (t128, t116) g) (
  J6_21 x0 x1 x7 x9 x11 x12 x15 x16 g N17 N7 K)
theorem L6_23_ok (R23 : LV × LV × LV × LV × LV × LV × LV → LV × LV → LHeap → Prop) (R17 : LV × LV × LV × LV × LV × LV → LV → LHeap → Prop) (R7 : LV × LV × LV → LV → LHeap → Prop) (K : LV → LHeap → Prop) (tm : Nat → LV) (g : LHeap) (h : L6_23 (tm 0) (tm 1) (tm 7) (tm 9) (tm 11) (tm 12) (tm 15) (tm 16) (tm 17) g (fun s g => R23 ((tm 0), (tm 1), (tm 7), (tm 9), (tm 11), (tm 12), (tm 15)) s g) (fun s g => R17 ((tm 0), (tm 1), (tm 7), (tm 9), (tm 11), (tm 12)) s g) (fun s g => R7 ((tm 0), (tm 1), (tm 7)) s g) K) : codeL Try.prog (Ok Try.prog) (nd6 [1, 1, 1, 1, 1, 0, 1, 0, 0, 1, 0, 0, 1, 1, 1, 1, 1, 1, 1, 0, 0, 1, 0, 0, 1, 0, 1, 0, 0]) ⟨tm, g⟩ (roundK (fun tm : Nat → LV => (tm 0, tm 1, tm 7, tm 9, tm 11, tm 12, tm 15)) (fun tm : Nat → LV => (tm 16, tm 17)) R23 (exitL 9 (thenL (kj6_21 R17 R7 K) (exitL 8 (thenL (kj6_19 R17 R7 K) (roundK (fun tm : Nat → LV => (tm 0, tm 1, tm 7, tm 9, tm 11, tm 12)) (fun tm : Nat → LV => tm 15) R17 (exitL 7 (exitL 1 (thenL (kj6_9 R7 K) (roundK (fun tm : Nat → LV => (tm 0, tm 1, tm 7)) (fun tm : Nat → LV => tm 9) R7 (exitL 0 (thenL (kj6_5  K) (en6 K))))))))))))) := by
  try unfold L6_23 at h
  unfold kj6_21
  generalize @J6_21 = Q6_21 at h ⊢
  unfold kj6_19
  generalize @J6_19 = Q6_19 at h ⊢
  unfold kj6_9
  generalize @J6_9 = Q6_9 at h ⊢
  unfold kj6_5
  generalize @J6_5 = Q6_5 at h ⊢
  refine code3_sound ok_mono (pl := [(37, (.lt 0 false (.lt 1 false (.lt 2 false (.lt 3 false (.lt 4 false (.lt 5 false (.lt 6 false (.lt 7 false (.lt 8 false (.lt 9 false (.lt 10 false (.lt 11 false (.lt 12 false .nil))))))))))))))]) _ _ _ (by kernel_rfl) ?_
  refine kmp ?_ h
  generalize Ok Try.prog = C
  unfold en6
  as_aux_lemma => kernel_rfl

noncomputable def J6_22 (x0 x1 x7 x9 x11 x12 x15 x16 x17 : LV) (g : LHeap) (N17 : LV → LHeap → Prop) (N7 : LV → LHeap → Prop) (K : LV → LHeap → Prop) : Prop :=
  loopP (fun s g N => L6_23 x0 x1 x7 x9 x11 x12 x15 s.1 s.2 g N N17 N7 K) (x16, x17) g
abbrev kj6_22 (R17 : LV × LV × LV × LV × LV × LV → LV → LHeap → Prop) (R7 : LV × LV × LV → LV → LHeap → Prop) (K : LV → LHeap → Prop) : LSt → Prop := fun st => J6_22 (st.tm 0) (st.tm 1) (st.tm 7) (st.tm 9) (st.tm 11) (st.tm 12) (st.tm 15) (st.tm 16) (st.tm 17) st.g (fun s g => R17 ((st.tm 0), (st.tm 1), (st.tm 7), (st.tm 9), (st.tm 11), (st.tm 12)) s g) (fun s g => R7 ((st.tm 0), (st.tm 1), (st.tm 7)) s g) K
theorem J6_22_ok (R17 : LV × LV × LV × LV × LV × LV → LV → LHeap → Prop) (R7 : LV × LV × LV → LV → LHeap → Prop) (K : LV → LHeap → Prop) (tm : Nat → LV) (g : LHeap) (h : J6_22 (tm 0) (tm 1) (tm 7) (tm 9) (tm 11) (tm 12) (tm 15) (tm 16) (tm 17) g (fun s g => R17 ((tm 0), (tm 1), (tm 7), (tm 9), (tm 11), (tm 12)) s g) (fun s g => R7 ((tm 0), (tm 1), (tm 7)) s g) K) : codeL Try.prog (Ok Try.prog) (nd6 [1, 1, 1, 1, 1, 0, 1, 0, 0, 1, 0, 0, 1, 1, 1, 1, 1, 1, 1, 0, 0, 1, 0, 0, 1, 0, 1]) ⟨tm, g⟩ (thenL (kj6_21 R17 R7 K) (exitL 8 (thenL (kj6_19 R17 R7 K) (roundK (fun tm : Nat → LV => (tm 0, tm 1, tm 7, tm 9, tm 11, tm 12)) (fun tm : Nat → LV => tm 15) R17 (exitL 7 (exitL 1 (thenL (kj6_9 R7 K) (roundK (fun tm : Nat → LV => (tm 0, tm 1, tm 7)) (fun tm : Nat → LV => tm 9) R7 (exitL 0 (thenL (kj6_5  K) (en6 K))))))))))) := by
  refine block_i (b := nd6 [1, 1, 1, 1, 1, 0, 1, 0, 0, 1, 0, 0, 1, 1, 1, 1, 1, 1, 1, 0, 0, 1, 0, 0, 1, 0, 1, 0]) (i := 9) (by kernel_rfl) ?_
  exact loop_glue (b := nd6 [1, 1, 1, 1, 1, 0, 1, 0, 0, 1, 0, 0, 1, 1, 1, 1, 1, 1, 1, 0, 0, 1, 0, 0, 1, 0, 1, 0, 0]) (by kernel_rfl) (fun tm : Nat → LV => (tm 0, tm 1, tm 7, tm 9, tm 11, tm 12, tm 15)) (fun tm : Nat → LV => (tm 16, tm 17)) (fun a s g N => L6_23 a.1 a.2.1 a.2.2.1 a.2.2.2.1 a.2.2.2.2.1 a.2.2.2.2.2.1 a.2.2.2.2.2.2 s.1 s.2 g N (fun s g => R17 ((a.1), (a.2.1), (a.2.2.1), (a.2.2.2.1), (a.2.2.2.2.1), (a.2.2.2.2.2.1)) s g) (fun s g => R7 ((a.1), (a.2.1), (a.2.2.1)) s g) K) (fun tm g R h => L6_23_ok R R17 R7 K tm g h) tm g h

noncomputable def J6_20 (x0 x1 x7 x9 x11 x12 x15 x16 : LV) (g : LHeap) (N17 : LV → LHeap → Prop) (N7 : LV → LHeap → Prop) (K : LV → LHeap → Prop) : Prop :=
  J6_22 x0 x1 x7 x9 x11 x12 x15 x16 (.int .i64 (0)) g N17 N7 K
abbrev kj6_20 (R17 : LV × LV × LV × LV × LV × LV → LV → LHeap → Prop) (R7 : LV × LV × LV → LV → LHeap → Prop) (K : LV → LHeap → Prop) : LSt → Prop := fun st => J6_20 (st.tm 0) (st.tm 1) (st.tm 7) (st.tm 9) (st.tm 11) (st.tm 12) (st.tm 15) (st.tm 16) st.g (fun s g => R17 ((st.tm 0), (st.tm 1), (st.tm 7), (st.tm 9), (st.tm 11), (st.tm 12)) s g) (fun s g => R7 ((st.tm 0), (st.tm 1), (st.tm 7)) s g) K
theorem J6_20_ok (R17 : LV × LV × LV × LV × LV × LV → LV → LHeap → Prop) (R7 : LV × LV × LV → LV → LHeap → Prop) (K : LV → LHeap → Prop) (tm : Nat → LV) (g : LHeap) (h : J6_20 (tm 0) (tm 1) (tm 7) (tm 9) (tm 11) (tm 12) (tm 15) (tm 16) g (fun s g => R17 ((tm 0), (tm 1), (tm 7), (tm 9), (tm 11), (tm 12)) s g) (fun s g => R7 ((tm 0), (tm 1), (tm 7)) s g) K) : codeL Try.prog (Ok Try.prog) (nd6 [1, 1, 1, 1, 1, 0, 1, 0, 0, 1, 0, 0, 1, 1, 1, 1, 1, 1, 1, 0, 0, 1, 0, 0, 1]) ⟨tm, g⟩ (exitL 8 (thenL (kj6_19 R17 R7 K) (roundK (fun tm : Nat → LV => (tm 0, tm 1, tm 7, tm 9, tm 11, tm 12)) (fun tm : Nat → LV => tm 15) R17 (exitL 7 (exitL 1 (thenL (kj6_9 R7 K) (roundK (fun tm : Nat → LV => (tm 0, tm 1, tm 7)) (fun tm : Nat → LV => tm 9) R7 (exitL 0 (thenL (kj6_5  K) (en6 K)))))))))) := by
  refine seq_i (a := nd6 [1, 1, 1, 1, 1, 0, 1, 0, 0, 1, 0, 0, 1, 1, 1, 1, 1, 1, 1, 0, 0, 1, 0, 0, 1, 0]) (b := nd6 [1, 1, 1, 1, 1, 0, 1, 0, 0, 1, 0, 0, 1, 1, 1, 1, 1, 1, 1, 0, 0, 1, 0, 0, 1, 1]) (k' := kj6_21 R17 R7 K) (by kernel_rfl) (fun st h => J6_21_ok R17 R7 K st.tm st.g h) ?_
  refine seq_i (a := nd6 [1, 1, 1, 1, 1, 0, 1, 0, 0, 1, 0, 0, 1, 1, 1, 1, 1, 1, 1, 0, 0, 1, 0, 0, 1, 0, 0]) (b := nd6 [1, 1, 1, 1, 1, 0, 1, 0, 0, 1, 0, 0, 1, 1, 1, 1, 1, 1, 1, 0, 0, 1, 0, 0, 1, 0, 1]) (k' := kj6_22 R17 R7 K) (by kernel_rfl) (fun st h => J6_22_ok R17 R7 K st.tm st.g h) ?_
  try unfold J6_20 at h
  unfold kj6_22
  generalize @J6_22 = Q6_22 at h ⊢
  unfold kj6_21
  generalize @J6_21 = Q6_21 at h ⊢
  unfold kj6_19
  generalize @J6_19 = Q6_19 at h ⊢
  unfold kj6_9
  generalize @J6_9 = Q6_9 at h ⊢
  unfold kj6_5
  generalize @J6_5 = Q6_5 at h ⊢
  refine code2_sound ok_mono _ _ _ ?_
  refine kmp ?_ h
  generalize Ok Try.prog = C
  unfold en6
  as_aux_lemma => kernel_rfl

noncomputable def J6_18 (x0 x1 x7 x9 x11 x12 x15 : LV) (g : LHeap) (N17 : LV → LHeap → Prop) (N7 : LV → LHeap → Prop) (K : LV → LHeap → Prop) : Prop :=
  J6_20 x0 x1 x7 x9 x11 x12 x15 (.bool false) g N17 N7 K
abbrev kj6_18 (R17 : LV × LV × LV × LV × LV × LV → LV → LHeap → Prop) (R7 : LV × LV × LV → LV → LHeap → Prop) (K : LV → LHeap → Prop) : LSt → Prop := fun st => J6_18 (st.tm 0) (st.tm 1) (st.tm 7) (st.tm 9) (st.tm 11) (st.tm 12) (st.tm 15) st.g (fun s g => R17 ((st.tm 0), (st.tm 1), (st.tm 7), (st.tm 9), (st.tm 11), (st.tm 12)) s g) (fun s g => R7 ((st.tm 0), (st.tm 1), (st.tm 7)) s g) K
theorem J6_18_ok (R17 : LV × LV × LV × LV × LV × LV → LV → LHeap → Prop) (R7 : LV × LV × LV → LV → LHeap → Prop) (K : LV → LHeap → Prop) (tm : Nat → LV) (g : LHeap) (h : J6_18 (tm 0) (tm 1) (tm 7) (tm 9) (tm 11) (tm 12) (tm 15) g (fun s g => R17 ((tm 0), (tm 1), (tm 7), (tm 9), (tm 11), (tm 12)) s g) (fun s g => R7 ((tm 0), (tm 1), (tm 7)) s g) K) : codeL Try.prog (Ok Try.prog) (nd6 [1, 1, 1, 1, 1, 0, 1, 0, 0, 1, 0, 0, 1, 1, 1, 1, 1, 1, 1, 0, 0, 1]) ⟨tm, g⟩ (roundK (fun tm : Nat → LV => (tm 0, tm 1, tm 7, tm 9, tm 11, tm 12)) (fun tm : Nat → LV => tm 15) R17 (exitL 7 (exitL 1 (thenL (kj6_9 R7 K) (roundK (fun tm : Nat → LV => (tm 0, tm 1, tm 7)) (fun tm : Nat → LV => tm 9) R7 (exitL 0 (thenL (kj6_5  K) (en6 K)))))))) := by
  refine seq_i (a := nd6 [1, 1, 1, 1, 1, 0, 1, 0, 0, 1, 0, 0, 1, 1, 1, 1, 1, 1, 1, 0, 0, 1, 0]) (b := nd6 [1, 1, 1, 1, 1, 0, 1, 0, 0, 1, 0, 0, 1, 1, 1, 1, 1, 1, 1, 0, 0, 1, 1]) (k' := kj6_19 R17 R7 K) (by kernel_rfl) (fun st h => J6_19_ok R17 R7 K st.tm st.g h) ?_
  refine block_i (b := nd6 [1, 1, 1, 1, 1, 0, 1, 0, 0, 1, 0, 0, 1, 1, 1, 1, 1, 1, 1, 0, 0, 1, 0, 0]) (i := 8) (by kernel_rfl) ?_
  refine seq_i (a := nd6 [1, 1, 1, 1, 1, 0, 1, 0, 0, 1, 0, 0, 1, 1, 1, 1, 1, 1, 1, 0, 0, 1, 0, 0, 0]) (b := nd6 [1, 1, 1, 1, 1, 0, 1, 0, 0, 1, 0, 0, 1, 1, 1, 1, 1, 1, 1, 0, 0, 1, 0, 0, 1]) (k' := kj6_20 R17 R7 K) (by kernel_rfl) (fun st h => J6_20_ok R17 R7 K st.tm st.g h) ?_
  try unfold J6_18 at h
  unfold kj6_20
  generalize @J6_20 = Q6_20 at h ⊢
  unfold kj6_19
  generalize @J6_19 = Q6_19 at h ⊢
  unfold kj6_9
  generalize @J6_9 = Q6_9 at h ⊢
  unfold kj6_5
  generalize @J6_5 = Q6_5 at h ⊢
  refine code2_sound ok_mono _ _ _ ?_
  refine kmp ?_ h
  generalize Ok Try.prog = C
  unfold en6
  as_aux_lemma => kernel_rfl

noncomputable def L6_17 (x0 x1 x7 x9 x11 x12 : LV) (x15 : LV) (g : LHeap) (N17 : LV → LHeap → Prop) (N7 : LV → LHeap → Prop) (K : LV → LHeap → Prop) : Prop :=
  oK (builtinL Try.prog .len [50] [x11] g) fun t107 g =>
  vK (binL Try.prog .lss 3 false x15 t107) fun t108 =>
  ifB t108 (
  J6_18 x0 x1 x7 x9 x11 x12 x15 g N17 N7 K) (
  J6_9 x0 x1 x7 x9 g N7 K)
theorem L6_17_ok (R17 : LV × LV × LV × LV × LV × LV → LV → LHeap → Prop) (R7 : LV × LV × LV → LV → LHeap → Prop) (K : LV → LHeap → Prop) (tm : Nat → LV) (g : LHeap) (h : L6_17 (tm 0) (tm 1) (tm 7) (tm 9) (tm 11) (tm 12) (tm 15) g (fun s g => R17 ((tm 0), (tm 1), (tm 7), (tm 9), (tm 11), (tm 12)) s g) (fun s g => R7 ((tm 0), (tm 1), (tm 7)) s g) K) : codeL Try.prog (Ok Try.prog) (nd6 [1, 1, 1, 1, 1, 0, 1, 0, 0, 1, 0, 0, 1, 1, 1, 1, 1, 1, 1, 0, 0]) ⟨tm, g⟩ (roundK (fun tm : Nat → LV => (tm 0, tm 1, tm 7, tm 9, tm 11, tm 12)) (fun tm : Nat → LV => tm 15) R17 (exitL 7 (exitL 1 (thenL (kj6_9 R7 K) (roundK (fun tm : Nat → LV => (tm 0, tm 1, tm 7)) (fun tm : Nat → LV => tm 9) R7 (exitL 0 (thenL (kj6_5  K) (en6 K)))))))) := by
  refine seq_i (a := nd6 [1, 1, 1, 1, 1, 0, 1, 0, 0, 1, 0, 0, 1, 1, 1, 1, 1, 1, 1, 0, 0, 0]) (b := nd6 [1, 1, 1, 1, 1, 0, 1, 0, 0, 1, 0, 0, 1, 1, 1, 1, 1, 1, 1, 0, 0, 1]) (k' := kj6_18 R17 R7 K) (by kernel_rfl) (fun st h => J6_18_ok R17 R7 K st.tm st.g h) ?_
  try unfold L6_17 at h
  unfold kj6_18
  generalize @J6_18 = Q6_18 at h ⊢
  unfold kj6_9
  generalize @J6_9 = Q6_9 at h ⊢
  unfold kj6_5
  generalize @J6_5 = Q6_5 at h ⊢
  refine code2_sound ok_mono _ _ _ ?_
  refine kmp ?_ h
  generalize Ok Try.prog = C
  unfold en6
  as_aux_lemma => kernel_rfl

noncomputable def J6_16 (x0 x1 x7 x9 x11 x12 x15 : LV) (g : LHeap) (N7 : LV → LHeap → Prop) (K : LV → LHeap → Prop) : Prop :=
  loopP (fun s g N => L6_17 x0 x1 x7 x9 x11 x12 s g N N7 K) x15 g
abbrev kj6_16 (R7 : LV × LV × LV → LV → LHeap → Prop) (K : LV → LHeap → Prop) : LSt → Prop := fun st => J6_16 (st.tm 0) (st.tm 1) (st.tm 7) (st.tm 9) (st.tm 11) (st.tm 12) (st.tm 15) st.g (fun s g => R7 ((st.tm 0), (st.tm 1), (st.tm 7)) s g) K
theorem J6_16_ok (R7 : LV × LV × LV → LV → LHeap → Prop) (K : LV → LHeap → Prop) (tm : Nat → LV) (g : LHeap) (h : J6_16 (tm 0) (tm 1) (tm 7) (tm 9) (tm 11) (tm 12) (tm 15) g (fun s g => R7 ((tm 0), (tm 1), (tm 7)) s g) K) : codeL Try.prog (Ok Try.prog) (nd6 [1, 1, 1, 1, 1, 0, 1, 0, 0, 1, 0, 0, 1, 1, 1, 1, 1, 1, 1]) ⟨tm, g⟩ (exitL 1 (thenL (kj6_9 R7 K) (roundK (fun tm : Nat → LV => (tm 0, tm 1, tm 7)) (fun tm : Nat → LV => tm 9) R7 (exitL 0 (thenL (kj6_5  K) (en6 K)))))) := by
  refine block_i (b := nd6 [1, 1, 1, 1, 1, 0, 1, 0, 0, 1, 0, 0, 1, 1, 1, 1, 1, 1, 1, 0]) (i := 7) (by kernel_rfl) ?_
  exact loop_glue (b := nd6 [1, 1, 1, 1, 1, 0, 1, 0, 0, 1, 0, 0, 1, 1, 1, 1, 1, 1, 1, 0, 0]) (by kernel_rfl) (fun tm : Nat → LV => (tm 0, tm 1, tm 7, tm 9, tm 11, tm 12)) (fun tm : Nat → LV => tm 15) (fun a s g N => L6_17 a.1 a.2.1 a.2.2.1 a.2.2.2.1 a.2.2.2.2.1 a.2.2.2.2.2 s g N (fun s g => R7 ((a.1), (a.2.1), (a.2.2.1)) s g) K) (fun tm g R h => L6_17_ok R R7 K tm g h) tm g h

noncomputable def J6_15 (x0 x1 x7 x9 x11 x12 : LV) (g : LHeap) (N7 : LV → LHeap → Prop) (K : LV → LHeap → Prop) : Prop :=
  J6_16 x0 x1 x7 x9 x11 x12 (.int .i64 (0)) g N7 K
abbrev kj6_15 (R7 : LV × LV × LV → LV → LHeap → Prop) (K : LV → LHeap → Prop) : LSt → Prop := fun st => J6_15 (st.tm 0) (st.tm 1) (st.tm 7) (st.tm 9) (st.tm 11) (st.tm 12) st.g (fun s g => R7 ((st.tm 0), (st.tm 1), (st.tm 7)) s g) K
theorem J6_15_ok (R7 : LV × LV × LV → LV → LHeap → Prop) (K : LV → LHeap → Prop) (tm : Nat → LV) (g : LHeap) (h : J6_15 (tm 0) (tm 1) (tm 7) (tm 9) (tm 11) (tm 12) g (fun s g => R7 ((tm 0), (tm 1), (tm 7)) s g) K) : codeL Try.prog (Ok Try.prog) (nd6 [1, 1, 1, 1, 1, 0, 1, 0, 0, 1, 0, 0, 1, 1, 1, 1, 1, 1]) ⟨tm, g⟩ (exitL 1 (thenL (kj6_9 R7 K) (roundK (fun tm : Nat → LV => (tm 0, tm 1, tm 7)) (fun tm : Nat → LV => tm 9) R7 (exitL 0 (thenL (kj6_5  K) (en6 K)))))) := by
  refine seq_i (a := nd6 [1, 1, 1, 1, 1, 0, 1, 0, 0, 1, 0, 0, 1, 1, 1, 1, 1, 1, 0]) (b := nd6 [1, 1, 1, 1, 1, 0, 1, 0, 0, 1, 0, 0, 1, 1, 1, 1, 1, 1, 1]) (k' := kj6_16 R7 K) (by kernel_rfl) (fun st h => J6_16_ok R7 K st.tm st.g h) ?_
  try unfold J6_15 at h
  unfold kj6_16
  generalize @J6_16 = Q6_16 at h ⊢
  unfold kj6_9
  generalize @J6_9 = Q6_9 at h ⊢
  unfold kj6_5
  generalize @J6_5 = Q6_5 at h ⊢
  refine code2_sound ok_mono _ _ _ ?_
  refine kmp ?_ h
  generalize Ok Try.prog = C
  unfold en6
  as_aux_lemma => kernel_rfl

noncomputable def J6_27 (x0 x1 x7 x9 x11 x12 x13 : LV) (g : LHeap) (N25 : LV → LHeap → Prop) (N7 : LV → LHeap → Prop) (K : LV → LHeap → Prop) : Prop :=
  vK (binL Try.prog .add 3 true x13 (.int .i64 (1))) fun t90 =>
  N25 t90 g
abbrev kj6_27 (R25 : LV × LV × LV × LV × LV × LV → LV → LHeap → Prop) (R7 : LV × LV × LV → LV → LHeap → Prop) (K : LV → LHeap → Prop) : LSt → Prop := fun st => J6_27 (st.tm 0) (st.tm 1) (st.tm 7) (st.tm 9) (st.tm 11) (st.tm 12) (st.tm 13) st.g (fun s g => R25 ((st.tm 0), (st.tm 1), (st.tm 7), (st.tm 9), (st.tm 11), (st.tm 12)) s g) (fun s g => R7 ((st.tm 0), (st.tm 1), (st.tm 7)) s g) K
theorem J6_27_ok (R25 : LV × LV × LV × LV × LV × LV → LV → LHeap → Prop) (R7 : LV × LV × LV → LV → LHeap → Prop) (K : LV → LHeap → Prop) (tm : Nat → LV) (g : LHeap) (h : J6_27 (tm 0) (tm 1) (tm 7) (tm 9) (tm 11) (tm 12) (tm 13) g (fun s g => R25 ((tm 0), (tm 1), (tm 7), (tm 9), (tm 11), (tm 12)) s g) (fun s g => R7 ((tm 0), (tm 1), (tm 7)) s g) K) : codeL Try.prog (Ok Try.prog) (nd6 [1, 1, 1, 1, 1, 0, 1, 0, 0, 1, 0, 0, 1, 1, 1, 1, 1, 0, 1, 0, 0, 1, 1]) ⟨tm, g⟩ (roundK (fun tm : Nat → LV => (tm 0, tm 1, tm 7, tm 9, tm 11, tm 12)) (fun tm : Nat → LV => tm 13) R25 (exitL 3 (thenL (kj6_15 R7 K) (exitL 1 (thenL (kj6_9 R7 K) (roundK (fun tm : Nat → LV => (tm 0, tm 1, tm 7)) (fun tm : Nat → LV => tm 9) R7 (exitL 0 (thenL (kj6_5  K) (en6 K))))))))) := by
  try unfold J6_27 at h
  unfold kj6_15
  generalize @J6_15 = Q6_15 at h ⊢
  unfold kj6_9
  generalize @J6_9 = Q6_9 at h ⊢
  unfold kj6_5
  generalize @J6_5 = Q6_5 at h ⊢
  refine code2_sound ok_mono _ _ _ ?_
  refine kmp ?_ h
  generalize Ok Try.prog = C
  unfold en6
  as_aux_lemma => kernel_rfl

noncomputable def L6_29 (x0 x1 x7 x9 x11 x12 x13 : LV) (x14 : LV) (g : LHeap) (N29 : LV → LHeap → Prop) (N25 : LV → LHeap → Prop) (N7 : LV → LHeap → Prop) (K : LV → LHeap → Prop) : Prop :=
  vK (binL Try.prog .lss 3 false x14 x13) fun t93 =>
  ifB t93 (
  vK (ixAddrL none 1 x12 x14) fun t98 =>
  vK (loadV none t98 g) fun t99 =>
  vK (ixAddrL none 1 x12 x13) fun t102 =>
  vK (loadV none t102 g) fun t103 =>
  vK (binL Try.prog .eql 3 false t99 t103) fun t104 =>
  ifB t104 (
  K (.bool false) g) (
  vK (binL Try.prog .add 3 true x14 (.int .i64 (1))) fun t95 =>
  N29 t95 g)) (
  J6_27 x0 x1 x7 x9 x11 x12 x13 g N25 N7 K)
theorem L6_29_ok (R29 : LV × LV × LV × LV × LV × LV × LV → LV → LHeap → Prop) (R25 : LV × LV × LV × LV × LV × LV → LV → LHeap → Prop) (R7 : LV × LV × LV → LV → LHeap → Prop) (K : LV → LHeap → Prop) (tm : Nat → LV) (g : LHeap) (h : L6_29 (tm 0) (tm 1) (tm 7) (tm 9) (tm 11) (tm 12) (tm 13) (tm 14) g (fun s g => R29 ((tm 0), (tm 1), (tm 7), (tm 9), (tm 11), (tm 12), (tm 13)) s g) (fun s g => R25 ((tm 0), (tm 1), (tm 7), (tm 9), (tm 11), (tm 12)) s g) (fun s g => R7 ((tm 0), (tm 1), (tm 7)) s g) K) : codeL Try.prog (Ok Try.prog) (nd6 [1, 1, 1, 1, 1, 0, 1, 0, 0, 1, 0, 0, 1, 1, 1, 1, 1, 0, 1, 0, 0, 1, 0, 0, 1, 0, 0]) ⟨tm, g⟩ (roundK (fun tm : Nat → LV => (tm 0, tm 1, tm 7, tm 9, tm 11, tm 12, tm 13)) (fun tm : Nat → LV => tm 14) R29 (exitL 5 (exitL 4 (thenL (kj6_27 R25 R7 K) (roundK (fun tm : Nat → LV => (tm 0, tm 1, tm 7, tm 9, tm 11, tm 12)) (fun tm : Nat → LV => tm 13) R25 (exitL 3 (thenL (kj6_15 R7 K) (exitL 1 (thenL (kj6_9 R7 K) (roundK (fun tm : Nat → LV => (tm 0, tm 1, tm 7)) (fun tm : Nat → LV => tm 9) R7 (exitL 0 (thenL (kj6_5  K) (en6 K))))))))))))) := by
  try unfold L6_29 at h
  unfold kj6_27
  generalize @J6_27 = Q6_27 at h ⊢
  unfold kj6_15
  generalize @J6_15 = Q6_15 at h ⊢
  unfold kj6_9
  generalize @J6_9 = Q6_9 at h ⊢
  unfold kj6_5
  generalize @J6_5 = Q6_5 at h ⊢
  refine code2_sound ok_mono _ _ _ ?_
  refine kmp ?_ h
  generalize Ok Try.prog = C
  unfold en6
  as_aux_lemma => kernel_rfl

noncomputable def J6_28 (x0 x1 x7 x9 x11 x12 x13 x14 : LV) (g : LHeap) (N25 : LV → LHeap → Prop) (N7 : LV → LHeap → Prop) (K : LV → LHeap → Prop) : Prop :=
  loopP (fun s g N => L6_29 x0 x1 x7 x9 x11 x12 x13 s g N N25 N7 K) x14 g
abbrev kj6_28 (R25 : LV × LV × LV × LV × LV × LV → LV → LHeap → Prop) (R7 : LV × LV × LV → LV → LHeap → Prop) (K : LV → LHeap → Prop) : LSt → Prop := fun st => J6_28 (st.tm 0) (st.tm 1) (st.tm 7) (st.tm 9) (st.tm 11) (st.tm 12) (st.tm 13) (st.tm 14) st.g (fun s g => R25 ((st.tm 0), (st.tm 1), (st.tm 7), (st.tm 9), (st.tm 11), (st.tm 12)) s g) (fun s g => R7 ((st.tm 0), (st.tm 1), (st.tm 7)) s g) K
theorem J6_28_ok (R25 : LV × LV × LV × LV × LV × LV → LV → LHeap → Prop) (R7 : LV × LV × LV → LV → LHeap → Prop) (K : LV → LHeap → Prop) (tm : Nat → LV) (g : LHeap) (h : J6_28 (tm 0) (tm 1) (tm 7) (tm 9) (tm 11) (tm 12) (tm 13) (tm 14) g (fun s g => R25 ((tm 0), (tm 1), (tm 7), (tm 9), (tm 11), (tm 12)) s g) (fun s g => R7 ((tm 0), (tm 1), (tm 7)) s g) K) : codeL Try.prog (Ok Try.prog) (nd6 [1, 1, 1, 1, 1, 0, 1, 0, 0, 1, 0, 0, 1, 1, 1, 1, 1, 0, 1, 0, 0, 1, 0, 0, 1]) ⟨tm, g⟩ (exitL 4 (thenL (kj6_27 R25 R7 K) (roundK (fun tm : Nat → LV => (tm 0, tm 1, tm 7, tm 9, tm 11, tm 12)) (fun tm : Nat → LV => tm 13) R25 (exitL 3 (thenL (kj6_15 R7 K) (exitL 1 (thenL (kj6_9 R7 K) (roundK (fun tm : Nat → LV => (tm 0, tm 1, tm 7)) (fun tm : Nat → LV => tm 9) R7 (exitL 0 (thenL (kj6_5  K) (en6 K))))))))))) := by
  refine block_i (b := nd6 [1, 1, 1, 1, 1, 0, 1, 0, 0, 1, 0, 0, 1, 1, 1, 1, 1, 0, 1, 0, 0, 1, 0, 0, 1, 0]) (i := 5) (by kernel_rfl) ?_
  exact loop_glue (b := nd6 [1, 1, 1, 1, 1, 0, 1, 0, 0, 1, 0, 0, 1, 1, 1, 1, 1, 0, 1, 0, 0, 1, 0, 0, 1, 0, 0]) (by kernel_rfl) (fun tm : Nat → LV => (tm 0, tm 1, tm 7, tm 9, tm 11, tm 12, tm 13)) (fun tm : Nat → LV => tm 14) (fun a s g N => L6_29 a.1 a.2.1 a.2.2.1 a.2.2.2.1 a.2.2.2.2.1 a.2.2.2.2.2.1 a.2.2.2.2.2.2 s g N (fun s g => R25 ((a.1), (a.2.1), (a.2.2.1), (a.2.2.2.1), (a.2.2.2.2.1), (a.2.2.2.2.2.1)) s g) (fun s g => R7 ((a.1), (a.2.1), (a.2.2.1)) s g) K) (fun tm g R h => L6_29_ok R R25 R7 K tm g h) tm g h

noncomputable def J6_26 (x0 x1 x7 x9 x11 x12 x13 : LV) (g : LHeap) (N25 : LV → LHeap → Prop) (N7 : LV → LHeap → Prop) (K : LV → LHeap → Prop) : Prop :=
  J6_28 x0 x1 x7 x9 x11 x12 x13 (.int .i64 (0)) g N25 N7 K
abbrev kj6_26 (R25 : LV × LV × LV × LV × LV × LV → LV → LHeap → Prop) (R7 : LV × LV × LV → LV → LHeap → Prop) (K : LV → LHeap → Prop) : LSt → Prop := fun st => J6_26 (st.tm 0) (st.tm 1) (st.tm 7) (st.tm 9) (st.tm 11) (st.tm 12) (st.tm 13) st.g (fun s g => R25 ((st.tm 0), (st.tm 1), (st.tm 7), (st.tm 9), (st.tm 11), (st.tm 12)) s g) (fun s g => R7 ((st.tm 0), (st.tm 1), (st.tm 7)) s g) K
theorem J6_26_ok (R25 : LV × LV × LV × LV × LV × LV → LV → LHeap → Prop) (R7 : LV × LV × LV → LV → LHeap → Prop) (K : LV → LHeap → Prop) (tm : Nat → LV) (g : LHeap) (h : J6_26 (tm 0) (tm 1) (tm 7) (tm 9) (tm 11) (tm 12) (tm 13) g (fun s g => R25 ((tm 0), (tm 1), (tm 7), (tm 9), (tm 11), (tm 12)) s g) (fun s g => R7 ((tm 0), (tm 1), (tm 7)) s g) K) : codeL Try.prog (Ok Try.prog) (nd6 [1, 1, 1, 1, 1, 0, 1, 0, 0, 1, 0, 0, 1, 1, 1, 1, 1, 0, 1, 0, 0, 1]) ⟨tm, g⟩ (roundK (fun tm : Nat → LV => (tm 0, tm 1, tm 7, tm 9, tm 11, tm 12)) (fun tm : Nat → LV => tm 13) R25 (exitL 3 (thenL (kj6_15 R7 K) (exitL 1 (thenL (kj6_9 R7 K) (roundK (fun tm : Nat → LV => (tm 0, tm 1, tm 7)) (fun tm : Nat → LV => tm 9) R7 (exitL 0 (thenL (kj6_5  K) (en6 K))))))))) := by
  refine seq_i (a := nd6 [1, 1, 1, 1, 1, 0, 1, 0, 0, 1, 0, 0, 1, 1, 1, 1, 1, 0, 1, 0, 0, 1, 0]) (b := nd6 [1, 1, 1, 1, 1, 0, 1, 0, 0, 1, 0, 0, 1, 1, 1, 1, 1, 0, 1, 0, 0, 1, 1]) (k' := kj6_27 R25 R7 K) (by kernel_rfl) (fun st h => J6_27_ok R25 R7 K st.tm st.g h) ?_
  refine block_i (b := nd6 [1, 1, 1, 1, 1, 0, 1, 0, 0, 1, 0, 0, 1, 1, 1, 1, 1, 0, 1, 0, 0, 1, 0, 0]) (i := 4) (by kernel_rfl) ?_
  refine seq_i (a := nd6 [1, 1, 1, 1, 1, 0, 1, 0, 0, 1, 0, 0, 1, 1, 1, 1, 1, 0, 1, 0, 0, 1, 0, 0, 0]) (b := nd6 [1, 1, 1, 1, 1, 0, 1, 0, 0, 1, 0, 0, 1, 1, 1, 1, 1, 0, 1, 0, 0, 1, 0, 0, 1]) (k' := kj6_28 R25 R7 K) (by kernel_rfl) (fun st h => J6_28_ok R25 R7 K st.tm st.g h) ?_
  try unfold J6_26 at h
  unfold kj6_28
  generalize @J6_28 = Q6_28 at h ⊢
  unfold kj6_27
  generalize @J6_27 = Q6_27 at h ⊢
  unfold kj6_15
  generalize @J6_15 = Q6_15 at h ⊢
  unfold kj6_9
  generalize @J6_9 = Q6_9 at h ⊢
  unfold kj6_5
  generalize @J6_5 = Q6_5 at h ⊢
  refine code2_sound ok_mono _ _ _ ?_
  refine kmp ?_ h
  generalize Ok Try.prog = C
  unfold en6
  as_aux_lemma => kernel_rfl

noncomputable def L6_25 (x0 x1 x7 x9 x11 x12 : LV) (x13 : LV) (g : LHeap) (N25 : LV → LHeap → Prop) (N7 : LV → LHeap → Prop) (K : LV → LHeap → Prop) : Prop :=
  oK (builtinL Try.prog .len [50] [x12] g) fun t87 g =>
  vK (binL Try.prog .lss 3 false x13 t87) fun t88 =>
  ifB t88 (
  J6_26 x0 x1 x7 x9 x11 x12 x13 g N25 N7 K) (
  J6_15 x0 x1 x7 x9 x11 x12 g N7 K)
theorem L6_25_ok (R25 : LV × LV × LV × LV × LV × LV → LV → LHeap → Prop) (R7 : LV × LV × LV → LV → LHeap → Prop) (K : LV → LHeap → Prop) (tm : Nat → LV) (g : LHeap) (h : L6_25 (tm 0) (tm 1) (tm 7) (tm 9) (tm 11) (tm 12) (tm 13) g (fun s g => R25 ((tm 0), (tm 1), (tm 7), (tm 9), (tm 11), (tm 12)) s g) (fun s g => R7 ((tm 0), (tm 1), (tm 7)) s g) K) : codeL Try.prog (Ok Try.prog) (nd6 [1, 1, 1, 1, 1, 0, 1, 0, 0, 1, 0, 0, 1, 1, 1, 1, 1, 0, 1, 0, 0]) ⟨tm, g⟩ (roundK (fun tm : Nat → LV => (tm 0, tm 1, tm 7, tm 9, tm 11, tm 12)) (fun tm : Nat → LV => tm 13) R25 (exitL 3 (thenL (kj6_15 R7 K) (exitL 1 (thenL (kj6_9 R7 K) (roundK (fun tm : Nat → LV => (tm 0, tm 1, tm 7)) (fun tm : Nat → LV => tm 9) R7 (exitL 0 (thenL (kj6_5  K) (en6 K))))))))) := by
  refine seq_i (a := nd6 [1, 1, 1, 1, 1, 0, 1, 0, 0, 1, 0, 0, 1, 1, 1, 1, 1, 0, 1, 0, 0, 0]) (b := nd6 [1, 1, 1, 1, 1, 0, 1, 0, 0, 1, 0, 0, 1, 1, 1, 1, 1, 0, 1, 0, 0, 1]) (k' := kj6_26 R25 R7 K) (by kernel_rfl) (fun st h => J6_26_ok R25 R7 K st.tm st.g h) ?_
  try unfold L6_25 at h
  unfold kj6_26
  generalize @J6_26 = Q6_26 at h ⊢
  unfold kj6_15
  generalize @J6_15 = Q6_15 at h ⊢
  unfold kj6_9
  generalize @J6_9 = Q6_9 at h ⊢
  unfold kj6_5
  generalize @J6_5 = Q6_5 at h ⊢
  refine code2_sound ok_mono _ _ _ ?_
  refine kmp ?_ h
  generalize Ok Try.prog = C
  unfold en6
  as_aux_lemma => kernel_rfl

noncomputable def J6_24 (x0 x1 x7 x9 x11 x12 x13 : LV) (g : LHeap) (N7 : LV → LHeap → Prop) (K : LV → LHeap → Prop) : Prop :=
  loopP (fun s g N => L6_25 x0 x1 x7 x9 x11 x12 s g N N7 K) x13 g
abbrev kj6_24 (R7 : LV × LV × LV → LV → LHeap → Prop) (K : LV → LHeap → Prop) : LSt → Prop := fun st => J6_24 (st.tm 0) (st.tm 1) (st.tm 7) (st.tm 9) (st.tm 11) (st.tm 12) (st.tm 13) st.g (fun s g => R7 ((st.tm 0), (st.tm 1), (st.tm 7)) s g) K
theorem J6_24_ok (R7 : LV × LV × LV → LV → LHeap → Prop) (K : LV → LHeap → Prop) (tm : Nat → LV) (g : LHeap) (h : J6_24 (tm 0) (tm 1) (tm 7) (tm 9) (tm 11) (tm 12) (tm 13) g (fun s g => R7 ((tm 0), (tm 1), (tm 7)) s g) K) : codeL Try.prog (Ok Try.prog) (nd6 [1, 1, 1, 1, 1, 0, 1, 0, 0, 1, 0, 0, 1, 1, 1, 1, 1, 0, 1]) ⟨tm, g⟩ (thenL (kj6_15 R7 K) (exitL 1 (thenL (kj6_9 R7 K) (roundK (fun tm : Nat → LV => (tm 0, tm 1, tm 7)) (fun tm : Nat → LV => tm 9) R7 (exitL 0 (thenL (kj6_5  K) (en6 K))))))) := by
  refine block_i (b := nd6 [1, 1, 1, 1, 1, 0, 1, 0, 0, 1, 0, 0, 1, 1, 1, 1, 1, 0, 1, 0]) (i := 3) (by kernel_rfl) ?_
  exact loop_glue (b := nd6 [1, 1, 1, 1, 1, 0, 1, 0, 0, 1, 0, 0, 1, 1, 1, 1, 1, 0, 1, 0, 0]) (by kernel_rfl) (fun tm : Nat → LV => (tm 0, tm 1, tm 7, tm 9, tm 11, tm 12)) (fun tm : Nat → LV => tm 13) (fun a s g N => L6_25 a.1 a.2.1 a.2.2.1 a.2.2.2.1 a.2.2.2.2.1 a.2.2.2.2.2 s g N (fun s g => R7 ((a.1), (a.2.1), (a.2.2.1)) s g) K) (fun tm g R h => L6_25_ok R R7 K tm g h) tm g h

noncomputable def J6_14 (x0 x1 x7 x9 x11 x12 : LV) (g : LHeap) (N7 : LV → LHeap → Prop) (K : LV → LHeap → Prop) : Prop :=
  J6_24 x0 x1 x7 x9 x11 x12 (.int .i64 (0)) g N7 K
abbrev kj6_14 (R7 : LV × LV × LV → LV → LHeap → Prop) (K : LV → LHeap → Prop) : LSt → Prop := fun st => J6_14 (st.tm 0) (st.tm 1) (st.tm 7) (st.tm 9) (st.tm 11) (st.tm 12) st.g (fun s g => R7 ((st.tm 0), (st.tm 1), (st.tm 7)) s g) K
theorem J6_14_ok (R7 : LV × LV × LV → LV → LHeap → Prop) (K : LV → LHeap → Prop) (tm : Nat → LV) (g : LHeap) (h : J6_14 (tm 0) (tm 1) (tm 7) (tm 9) (tm 11) (tm 12) g (fun s g => R7 ((tm 0), (tm 1), (tm 7)) s g) K) : codeL Try.prog (Ok Try.prog) (nd6 [1, 1, 1, 1, 1, 0, 1, 0, 0, 1, 0, 0, 1, 1, 1, 1, 1]) ⟨tm, g⟩ (exitL 1 (thenL (kj6_9 R7 K) (roundK (fun tm : Nat → LV => (tm 0, tm 1, tm 7)) (fun tm : Nat → LV => tm 9) R7 (exitL 0 (thenL (kj6_5  K) (en6 K)))))) := by
  refine seq_i (a := nd6 [1, 1, 1, 1, 1, 0, 1, 0, 0, 1, 0, 0, 1, 1, 1, 1, 1, 0]) (b := nd6 [1, 1, 1, 1, 1, 0, 1, 0, 0, 1, 0, 0, 1, 1, 1, 1, 1, 1]) (k' := kj6_15 R7 K) (by kernel_rfl) (fun st h => J6_15_ok R7 K st.tm st.g h) ?_
  refine seq_i (a := nd6 [1, 1, 1, 1, 1, 0, 1, 0, 0, 1, 0, 0, 1, 1, 1, 1, 1, 0, 0]) (b := nd6 [1, 1, 1, 1, 1, 0, 1, 0, 0, 1, 0, 0, 1, 1, 1, 1, 1, 0, 1]) (k' := kj6_24 R7 K) (by kernel_rfl) (fun st h => J6_24_ok R7 K st.tm st.g h) ?_
  try unfold J6_14 at h
  unfold kj6_24
  generalize @J6_24 = Q6_24 at h ⊢
  unfold kj6_15
  generalize @J6_15 = Q6_15 at h ⊢
  unfold kj6_9
  generalize @J6_9 = Q6_9 at h ⊢
  unfold kj6_5
  generalize @J6_5 = Q6_5 at h ⊢
  refine code2_sound ok_mono _ _ _ ?_
  refine kmp ?_ h
  generalize Ok Try.prog = C
  unfold en6
  as_aux_lemma => kernel_rfl

noncomputable def J6_13 (x0 x1 x7 x9 x11 x12 : LV) (g : LHeap) (N7 : LV → LHeap → Prop) (K : LV → LHeap → Prop) : Prop :=
  oK (builtinL Try.prog .len [50] [x12] g) fun t82 g =>
  vK (binL Try.prog .gtr 3 false t82 x0) fun t84 =>
  ifB t84 (
  K (.bool false) g) (
  J6_14 x0 x1 x7 x9 x11 x12 g N7 K)
abbrev kj6_13 (R7 : LV × LV × LV → LV → LHeap → Prop) (K : LV → LHeap → Prop) : LSt → Prop := fun st => J6_13 (st.tm 0) (st.tm 1) (st.tm 7) (st.tm 9) (st.tm 11) (st.tm 12) st.g (fun s g => R7 ((st.tm 0), (st.tm 1), (st.tm 7)) s g) K
theorem J6_13_ok (R7 : LV × LV × LV → LV → LHeap → Prop) (K : LV → LHeap → Prop) (tm : Nat → LV) (g : LHeap) (h : J6_13 (tm 0) (tm 1) (tm 7) (tm 9) (tm 11) (tm 12) g (fun s g => R7 ((tm 0), (tm 1), (tm 7)) s g) K) : codeL Try.prog (Ok Try.prog) (nd6 [1, 1, 1, 1, 1, 0, 1, 0, 0, 1, 0, 0, 1, 1, 1, 1]) ⟨tm, g⟩ (exitL 1 (thenL (kj6_9 R7 K) (roundK (fun tm : Nat → LV => (tm 0, tm 1, tm 7)) (fun tm : Nat → LV => tm 9) R7 (exitL 0 (thenL (kj6_5  K) (en6 K)))))) := by
  refine seq_i (a := nd6 [1, 1, 1, 1, 1, 0, 1, 0, 0, 1, 0, 0, 1, 1, 1, 1, 0]) (b := nd6 [1, 1, 1, 1, 1, 0, 1, 0, 0, 1, 0, 0, 1, 1, 1, 1, 1]) (k' := kj6_14 R7 K) (by kernel_rfl) (fun st h => J6_14_ok R7 K st.tm st.g h) ?_
  try unfold J6_13 at h
  unfold kj6_14
  generalize @J6_14 = Q6_14 at h ⊢
  unfold kj6_9
  generalize @J6_9 = Q6_9 at h ⊢
  unfold kj6_5
  generalize @J6_5 = Q6_5 at h ⊢
  refine code2_sound ok_mono _ _ _ ?_
  refine kmp ?_ h
  generalize Ok Try.prog = C
  unfold en6
  as_aux_lemma => kernel_rfl

noncomputable def J6_12 (x0 x1 x7 x9 x11 : LV) (g : LHeap) (N7 : LV → LHeap → Prop) (K : LV → LHeap → Prop) : Prop :=
  Ok Try.prog 35 [x7] g fun t80 g =>
  J6_13 x0 x1 x7 x9 x11 t80 g N7 K
abbrev kj6_12 (R7 : LV × LV × LV → LV → LHeap → Prop) (K : LV → LHeap → Prop) : LSt → Prop := fun st => J6_12 (st.tm 0) (st.tm 1) (st.tm 7) (st.tm 9) (st.tm 11) st.g (fun s g => R7 ((st.tm 0), (st.tm 1), (st.tm 7)) s g) K
theorem J6_12_ok (R7 : LV × LV × LV → LV → LHeap → Prop) (K : LV → LHeap → Prop) (tm : Nat → LV) (g : LHeap) (h : J6_12 (tm 0) (tm 1) (tm 7) (tm 9) (tm 11) g (fun s g => R7 ((tm 0), (tm 1), (tm 7)) s g) K) : codeL Try.prog (Ok Try.prog) (nd6 [1, 1, 1, 1, 1, 0, 1, 0, 0, 1, 0, 0, 1, 1, 1]) ⟨tm, g⟩ (exitL 1 (thenL (kj6_9 R7 K) (roundK (fun tm : Nat → LV => (tm 0, tm 1, tm 7)) (fun tm : Nat → LV => tm 9) R7 (exitL 0 (thenL (kj6_5  K) (en6 K)))))) := by
  refine seq_i (a := nd6 [1, 1, 1, 1, 1, 0, 1, 0, 0, 1, 0, 0, 1, 1, 1, 0]) (b := nd6 [1, 1, 1, 1, 1, 0, 1, 0, 0, 1, 0, 0, 1, 1, 1, 1]) (k' := kj6_13 R7 K) (by kernel_rfl) (fun st h => J6_13_ok R7 K st.tm st.g h) ?_
  try unfold J6_12 at h
  unfold kj6_13
  generalize @J6_13 = Q6_13 at h ⊢
  unfold kj6_9
  generalize @J6_9 = Q6_9 at h ⊢
  unfold kj6_5
  generalize @J6_5 = Q6_5 at h ⊢
  refine code2_sound ok_mono _ _ _ ?_
  refine kmp ?_ h
  generalize Ok Try.prog = C
  unfold en6
  as_aux_lemma => kernel_rfl

noncomputable def J6_11 (x0 x1 x7 x9 x10 x11 : LV) (g : LHeap) (N7 : LV → LHeap → Prop) (K : LV → LHeap → Prop) : Prop :=
  vK (fieldAddrL 0 x10) fun t58 =>
  vK (loadV none t58 g) fun t59 =>
  vK (binL Try.prog .eql 3 true t59 (.int .i64 (1))) fun t61 =>
  ifB t61 (
  vK (fieldAddrL 1 x10) fun t63 =>
  vK (loadV none t63 g) fun t64 =>
  Ok Try.prog 13 [x7, t64] g fun t65 g =>
  J6_12 x0 x1 x7 x9 x11 g N7 K) (
  vK (binL Try.prog .eql 3 true t59 (.int .i64 (2))) fun t67 =>
  ifB t67 (
  vK (fieldAddrL 1 x10) fun t69 =>
  vK (loadV none t69 g) fun t70 =>
  vK (fieldAddrL 2 x10) fun t71 =>
  vK (loadV none t71 g) fun t72 =>
  ((Ok Try.prog 16 [t72, (.int .i64 (0))] g fun t73 g =>
  ((loadV none t69 g) = some t70 ∧ 
  ((Ok Try.prog 15 [x7, t70, t73] g fun t74 g =>
  
  J6_12 x0 x1 x7 x9 x11 g N7 K) ∧ True))) ∧ True)) (
  vK (binL Try.prog .eql 3 true t59 (.int .i64 (4))) fun t76 =>
  ifB t76 (
  Ok Try.prog 18 [x7] g fun t78 g =>
  J6_12 x0 x1 x7 x9 x11 g N7 K) (
  J6_12 x0 x1 x7 x9 x11 g N7 K)))
abbrev kj6_11 (R7 : LV × LV × LV → LV → LHeap → Prop) (K : LV → LHeap → Prop) : LSt → Prop := fun st => J6_11 (st.tm 0) (st.tm 1) (st.tm 7) (st.tm 9) (st.tm 10) (st.tm 11) st.g (fun s g => R7 ((st.tm 0), (st.tm 1), (st.tm 7)) s g) K
theorem J6_11_ok (R7 : LV × LV × LV → LV → LHeap → Prop) (K : LV → LHeap → Prop) (tm : Nat → LV) (g : LHeap) (h : J6_11 (tm 0) (tm 1) (tm 7) (tm 9) (tm 10) (tm 11) g (fun s g => R7 ((tm 0), (tm 1), (tm 7)) s g) K) : codeL Try.prog (Ok Try.prog) (nd6 [1, 1, 1, 1, 1, 0, 1, 0, 0, 1, 0, 0, 1, 1]) ⟨tm, g⟩ (exitL 1 (thenL (kj6_9 R7 K) (roundK (fun tm : Nat → LV => (tm 0, tm 1, tm 7)) (fun tm : Nat → LV => tm 9) R7 (exitL 0 (thenL (kj6_5  K) (en6 K)))))) := by
  refine seq_i (a := nd6 [1, 1, 1, 1, 1, 0, 1, 0, 0, 1, 0, 0, 1, 1, 0]) (b := nd6 [1, 1, 1, 1, 1, 0, 1, 0, 0, 1, 0, 0, 1, 1, 1]) (k' := kj6_12 R7 K) (by kernel_rfl) (fun st h => J6_12_ok R7 K st.tm st.g h) ?_
  try unfold J6_11 at h
  unfold kj6_12
  generalize @J6_12 = Q6_12 at h ⊢
  unfold kj6_9
  generalize @J6_9 = Q6_9 at h ⊢
  unfold kj6_5
  generalize @J6_5 = Q6_5 at h ⊢
  refine code2_sound ok_mono _ _ _ ?_
  refine kmp ?_ h
  generalize Ok Try.prog = C
  unfold en6
  as_aux_lemma => kernel_rfl

noncomputable def J6_10 (x0 x1 x7 x9 x10 : LV) (g : LHeap) (N7 : LV → LHeap → Prop) (K : LV → LHeap → Prop) : Prop :=
  Ok Try.prog 34 [x7] g fun t57 g =>
  J6_11 x0 x1 x7 x9 x10 t57 g N7 K
abbrev kj6_10 (R7 : LV × LV × LV → LV → LHeap → Prop) (K : LV → LHeap → Prop) : LSt → Prop := fun st => J6_10 (st.tm 0) (st.tm 1) (st.tm 7) (st.tm 9) (st.tm 10) st.g (fun s g => R7 ((st.tm 0), (st.tm 1), (st.tm 7)) s g) K
theorem J6_10_ok (R7 : LV × LV × LV → LV → LHeap → Prop) (K : LV → LHeap → Prop) (tm : Nat → LV) (g : LHeap) (h : J6_10 (tm 0) (tm 1) (tm 7) (tm 9) (tm 10) g (fun s g => R7 ((tm 0), (tm 1), (tm 7)) s g) K) : codeL Try.prog (Ok Try.prog) (nd6 [1, 1, 1, 1, 1, 0, 1, 0, 0, 1, 0, 0, 1]) ⟨tm, g⟩ (exitL 1 (thenL (kj6_9 R7 K) (roundK (fun tm : Nat → LV => (tm 0, tm 1, tm 7)) (fun tm : Nat → LV => tm 9) R7 (exitL 0 (thenL (kj6_5  K) (en6 K)))))) := by
  refine seq_i (a := nd6 [1, 1, 1, 1, 1, 0, 1, 0, 0, 1, 0, 0, 1, 0]) (b := nd6 [1, 1, 1, 1, 1, 0, 1, 0, 0, 1, 0, 0, 1, 1]) (k' := kj6_11 R7 K) (by kernel_rfl) (fun st h => J6_11_ok R7 K st.tm st.g h) ?_
  try unfold J6_10 at h
  unfold kj6_11
  generalize @J6_11 = Q6_11 at h ⊢
  unfold kj6_9
  generalize @J6_9 = Q6_9 at h ⊢
  unfold kj6_5
  generalize @J6_5 = Q6_5 at h ⊢
  refine code2_sound ok_mono _ _ _ ?_
  refine kmp ?_ h
  generalize Ok Try.prog = C
  unfold en6
  as_aux_lemma => kernel_rfl

noncomputable def J6_8 (x0 x1 x7 x9 : LV) (g : LHeap) (N7 : LV → LHeap → Prop) (K : LV → LHeap → Prop) : Prop :=
  vK (ixAddrL none 4 x1 x9) fun t54 =>
  vK (loadV (some 4) t54 g) fun t55 =>
  oK (newL (.agg [(.int .i64 (0)), (.int .i64 (0)), (.int .u8 (0)), (.int .i64 (0))]) g) fun t10 g =>
  gK (storeV 4 t10 t55 g) fun g =>
  J6_10 x0 x1 x7 x9 t10 g N7 K
abbrev kj6_8 (R7 : LV × LV × LV → LV → LHeap → Prop) (K : LV → LHeap → Prop) : LSt → Prop := fun st => J6_8 (st.tm 0) (st.tm 1) (st.tm 7) (st.tm 9) st.g (fun s g => R7 ((st.tm 0), (st.tm 1), (st.tm 7)) s g) K
theorem J6_8_ok (R7 : LV × LV × LV → LV → LHeap → Prop) (K : LV → LHeap → Prop) (tm : Nat → LV) (g : LHeap) (h : J6_8 (tm 0) (tm 1) (tm 7) (tm 9) g (fun s g => R7 ((tm 0), (tm 1), (tm 7)) s g) K) : codeL Try.prog (Ok Try.prog) (nd6 [1, 1, 1, 1, 1, 0, 1, 0, 0, 1]) ⟨tm, g⟩ (roundK (fun tm : Nat → LV => (tm 0, tm 1, tm 7)) (fun tm : Nat → LV => tm 9) R7 (exitL 0 (thenL (kj6_5  K) (en6 K)))) := by
  refine seq_i (a := nd6 [1, 1, 1, 1, 1, 0, 1, 0, 0, 1, 0]) (b := nd6 [1, 1, 1, 1, 1, 0, 1, 0, 0, 1, 1]) (k' := kj6_9 R7 K) (by kernel_rfl) (fun st h => J6_9_ok R7 K st.tm st.g h) ?_
  refine block_i (b := nd6 [1, 1, 1, 1, 1, 0, 1, 0, 0, 1, 0, 0]) (i := 1) (by kernel_rfl) ?_
  refine seq_i (a := nd6 [1, 1, 1, 1, 1, 0, 1, 0, 0, 1, 0, 0, 0]) (b := nd6 [1, 1, 1, 1, 1, 0, 1, 0, 0, 1, 0, 0, 1]) (k' := kj6_10 R7 K) (by kernel_rfl) (fun st h => J6_10_ok R7 K st.tm st.g h) ?_
  try unfold J6_8 at h
  unfold kj6_10
  generalize @J6_10 = Q6_10 at h ⊢
  unfold kj6_9
  generalize @J6_9 = Q6_9 at h ⊢
  unfold kj6_5
  generalize @J6_5 = Q6_5 at h ⊢
  refine code2_sound ok_mono _ _ _ ?_
  refine kmp ?_ h
  generalize Ok Try.prog = C
  unfold en6
  as_aux_lemma => kernel_rfl

noncomputable def L6_7 (x0 x1 x7 : LV) (x9 : LV) (g : LHeap) (N7 : LV → LHeap → Prop) (K : LV → LHeap → Prop) : Prop :=
  oK (builtinL Try.prog .len [22] [x1] g) fun t48 g =>
  vK (binL Try.prog .lss 3 false x9 t48) fun t49 =>
  ifB t49 (
  J6_8 x0 x1 x7 x9 g N7 K) (
  J6_5  g  K)
theorem L6_7_ok (R7 : LV × LV × LV → LV → LHeap → Prop) (K : LV → LHeap → Prop) (tm : Nat → LV) (g : LHeap) (h : L6_7 (tm 0) (tm 1) (tm 7) (tm 9) g (fun s g => R7 ((tm 0), (tm 1), (tm 7)) s g) K) : codeL Try.prog (Ok Try.prog) (nd6 [1, 1, 1, 1, 1, 0, 1, 0, 0]) ⟨tm, g⟩ (roundK (fun tm : Nat → LV => (tm 0, tm 1, tm 7)) (fun tm : Nat → LV => tm 9) R7 (exitL 0 (thenL (kj6_5  K) (en6 K)))) := by
  refine seq_i (a := nd6 [1, 1, 1, 1, 1, 0, 1, 0, 0, 0]) (b := nd6 [1, 1, 1, 1, 1, 0, 1, 0, 0, 1]) (k' := kj6_8 R7 K) (by kernel_rfl) (fun st h => J6_8_ok R7 K st.tm st.g h) ?_
  try unfold L6_7 at h
  unfold kj6_8
  generalize @J6_8 = Q6_8 at h ⊢
  unfold kj6_5
  generalize @J6_5 = Q6_5 at h ⊢
  refine code2_sound ok_mono _ _ _ ?_
  refine kmp ?_ h
  generalize Ok Try.prog = C
  unfold en6
  as_aux_lemma => kernel_rfl

noncomputable def J6_6 (x0 x1 x7 x9 : LV) (g : LHeap)  (K : LV → LHeap → Prop) : Prop :=
  loopP (fun s g N => L6_7 x0 x1 x7 s g N  K) x9 g
abbrev kj6_6  (K : LV → LHeap → Prop) : LSt → Prop := fun st => J6_6 (st.tm 0) (st.tm 1) (st.tm 7) (st.tm 9) st.g  K
theorem J6_6_ok  (K : LV → LHeap → Prop) (tm : Nat → LV) (g : LHeap) (h : J6_6 (tm 0) (tm 1) (tm 7) (tm 9) g  K) : codeL Try.prog (Ok Try.prog) (nd6 [1, 1, 1, 1, 1, 0, 1]) ⟨tm, g⟩ (thenL (kj6_5  K) (en6 K)) := by
  refine block_i (b := nd6 [1, 1, 1, 1, 1, 0, 1, 0]) (i := 0) (by kernel_rfl) ?_
  exact loop_glue (b := nd6 [1, 1, 1, 1, 1, 0, 1, 0, 0]) (by kernel_rfl) (fun tm : Nat → LV => (tm 0, tm 1, tm 7)) (fun tm : Nat → LV => tm 9) (fun a s g N => L6_7 a.1 a.2.1 a.2.2 s g N  K) (fun tm g R h => L6_7_ok R  K tm g h) tm g h

noncomputable def J6_4 (x0 x1 x7 : LV) (g : LHeap)  (K : LV → LHeap → Prop) : Prop :=
  J6_6 x0 x1 x7 (.int .i64 (0)) g  K
abbrev kj6_4  (K : LV → LHeap → Prop) : LSt → Prop := fun st => J6_4 (st.tm 0) (st.tm 1) (st.tm 7) st.g  K
theorem J6_4_ok  (K : LV → LHeap → Prop) (tm : Nat → LV) (g : LHeap) (h : J6_4 (tm 0) (tm 1) (tm 7) g  K) : codeL Try.prog (Ok Try.prog) (nd6 [1, 1, 1, 1, 1]) ⟨tm, g⟩ (en6 K) := by
  refine seq_i (a := nd6 [1, 1, 1, 1, 1, 0]) (b := nd6 [1, 1, 1, 1, 1, 1]) (k' := kj6_5  K) (by kernel_rfl) (fun st h => J6_5_ok  K st.tm st.g h) ?_
  refine seq_i (a := nd6 [1, 1, 1, 1, 1, 0, 0]) (b := nd6 [1, 1, 1, 1, 1, 0, 1]) (k' := kj6_6  K) (by kernel_rfl) (fun st h => J6_6_ok  K st.tm st.g h) ?_
  try unfold J6_4 at h
  unfold kj6_6
  generalize @J6_6 = Q6_6 at h ⊢
  unfold kj6_5
  generalize @J6_5 = Q6_5 at h ⊢
  refine code2_sound ok_mono _ _ _ ?_
  refine kmp ?_ h
  generalize Ok Try.prog = C
  unfold en6
  as_aux_lemma => kernel_rfl

noncomputable def J6_3 (x0 x1 x7 x8 : LV) (g : LHeap)  (K : LV → LHeap → Prop) : Prop :=
  vK (binL Try.prog .neq 24 true x8 (.int .i64 (0))) fun t39 =>
  gd t39 false g (fun K => K x7 g) fun t41 g =>
  gd t39 false g (fun K => vK (binL Try.prog .eql 28 true t41 .nilp) fun v => K v g) fun t42 g =>
  vK (pickL t39 (.bool true) t42) fun t43 =>
  ifB t43 (
  vK (binL Try.prog .eql 28 true x7 .nilp) fun t45 =>
  K t45 g) (
  J6_4 x0 x1 x7 g  K)
abbrev kj6_3  (K : LV → LHeap → Prop) : LSt → Prop := fun st => J6_3 (st.tm 0) (st.tm 1) (st.tm 7) (st.tm 8) st.g  K
theorem J6_3_ok  (K : LV → LHeap → Prop) (tm : Nat → LV) (g : LHeap) (h : J6_3 (tm 0) (tm 1) (tm 7) (tm 8) g  K) : codeL Try.prog (Ok Try.prog) (nd6 [1, 1, 1, 1]) ⟨tm, g⟩ (en6 K) := by
  refine seq_i (a := nd6 [1, 1, 1, 1, 0]) (b := nd6 [1, 1, 1, 1, 1]) (k' := kj6_4  K) (by kernel_rfl) (fun st h => J6_4_ok  K st.tm st.g h) ?_
  try unfold J6_3 at h
  unfold kj6_4
  generalize @J6_4 = Q6_4 at h ⊢
  refine code2_sound ok_mono _ _ _ ?_
  refine kmp ?_ h
  generalize Ok Try.prog = C
  unfold en6
  as_aux_lemma => kernel_rfl

noncomputable def J6_2 (x0 x1 x5 : LV) (g : LHeap)  (K : LV → LHeap → Prop) : Prop :=
  Ok Try.prog 12 [x5, x0] g fun t35 g =>
  vK (extractL t35 0) fun t36 =>
  vK (extractL t35 1) fun t37 =>
  J6_3 x0 x1 t36 t37 g  K
abbrev kj6_2  (K : LV → LHeap → Prop) : LSt → Prop := fun st => J6_2 (st.tm 0) (st.tm 1) (st.tm 5) st.g  K
theorem J6_2_ok  (K : LV → LHeap → Prop) (tm : Nat → LV) (g : LHeap) (h : J6_2 (tm 0) (tm 1) (tm 5) g  K) : codeL Try.prog (Ok Try.prog) (nd6 [1, 1, 1]) ⟨tm, g⟩ (en6 K) := by
  refine seq_i (a := nd6 [1, 1, 1, 0]) (b := nd6 [1, 1, 1, 1]) (k' := kj6_3  K) (by kernel_rfl) (fun st h => J6_3_ok  K st.tm st.g h) ?_
  try unfold J6_2 at h
  unfold kj6_3
  generalize @J6_3 = Q6_3 at h ⊢
  refine code2_sound ok_mono _ _ _ ?_
  refine kmp ?_ h
  generalize Ok Try.prog = C
  unfold en6
  as_aux_lemma => kernel_rfl

noncomputable def J6_1 (x0 x1 x5 x6 : LV) (g : LHeap)  (K : LV → LHeap → Prop) : Prop :=
  vK (binL Try.prog .neq 24 true x6 (.int .i64 (0))) fun t23 =>
  gd t23 false g (fun K => K x5 g) fun t25 g =>
  gd t23 false g (fun K => vK (binL Try.prog .eql 23 true t25 .nilp) fun v => K v g) fun t26 g =>
  vK (pickL t23 (.bool true) t26) fun t27 =>
  gd t27 false g (fun K => Ok Try.prog 11 [] g K) fun t29 g =>
  gd t27 false g (fun K => vK (unL .not t29) fun v => K v g) fun t30 g =>
  vK (pickL t27 (.bool true) t30) fun t31 =>
  ifB t31 (
  K (.bool false) g) (
  J6_2 x0 x1 x5 g  K)
abbrev kj6_1  (K : LV → LHeap → Prop) : LSt → Prop := fun st => J6_1 (st.tm 0) (st.tm 1) (st.tm 5) (st.tm 6) st.g  K
theorem J6_1_ok  (K : LV → LHeap → Prop) (tm : Nat → LV) (g : LHeap) (h : J6_1 (tm 0) (tm 1) (tm 5) (tm 6) g  K) : codeL Try.prog (Ok Try.prog) (nd6 [1, 1]) ⟨tm, g⟩ (en6 K) := by
  refine seq_i (a := nd6 [1, 1, 0]) (b := nd6 [1, 1, 1]) (k' := kj6_2  K) (by kernel_rfl) (fun st h => J6_2_ok  K st.tm st.g h) ?_
  try unfold J6_1 at h
  unfold kj6_2
  generalize @J6_2 = Q6_2 at h ⊢
  refine code2_sound ok_mono _ _ _ ?_
  refine kmp ?_ h
  generalize Ok Try.prog = C
  unfold en6
  as_aux_lemma => kernel_rfl

noncomputable def J6_0 (x0 x1 : LV) (g : LHeap)  (K : LV → LHeap → Prop) : Prop :=
  Ok Try.prog 10 [(.int .i64 (12))] g fun t19 g =>
  vK (extractL t19 0) fun t20 =>
  vK (extractL t19 1) fun t21 =>
  J6_1 x0 x1 t20 t21 g  K
abbrev kj6_0  (K : LV → LHeap → Prop) : LSt → Prop := fun st => J6_0 (st.tm 0) (st.tm 1) st.g  K
theorem J6_0_ok  (K : LV → LHeap → Prop) (tm : Nat → LV) (g : LHeap) (h : J6_0 (tm 0) (tm 1) g  K) : codeL Try.prog (Ok Try.prog) (nd6 [1]) ⟨tm, g⟩ (en6 K) := by
  refine seq_i (a := nd6 [1, 0]) (b := nd6 [1, 1]) (k' := kj6_1  K) (by kernel_rfl) (fun st h => J6_1_ok  K st.tm st.g h) ?_
  try unfold J6_0 at h
  unfold kj6_1
  generalize @J6_1 = Q6_1 at h ⊢
  refine code2_sound ok_mono _ _ _ ?_
  refine kmp ?_ h
  generalize Ok Try.prog = C
  unfold en6
  as_aux_lemma => kernel_rfl

noncomputable def F6 (x0 x1 : LV) (g : LHeap) (K : LV → LHeap → Prop) : Prop :=
  J6_0 x0 x1 g  K
theorem ok6 {x0 x1 : LV} {g : LHeap} {K : LV → LHeap → Prop} (h : g.Wf → (∀ v ∈ ([x0, x1] : List LV), ∀ b ∈ v.objs, b < g.next) → F6 x0 x1 g K) : Ok Try.prog 6 [x0, x1] g K := by
  refine ok_fw Try.mixed Try.func6 (by kernel_rfl) (by kernel_rfl) (c := nd6 []) (by kernel_rfl) fun wf lt => ?_
  rw [← en6_eq]
  replace h := h wf lt
  generalize hs : startL _ = tm
  replace h : F6 (tm 0) (tm 1) g K := by rw [← hs]; exact h
  refine seq_i (a := nd6 [0]) (b := nd6 [1]) (k' := kj6_0  K) (by kernel_rfl) (fun st h => J6_0_ok  K st.tm st.g h) ?_
  try unfold F6 at h
  unfold kj6_0
  generalize @J6_0 = Q6_0 at h ⊢
  refine code2_sound ok_mono _ _ _ ?_
  refine kmp ?_ h
  generalize Ok Try.prog = C
  unfold en6
  as_aux_lemma => kernel_rfl

/-! parapet/parapetlaw15.BufBack (186 slots) -/
noncomputable def en9 (K : LV → LHeap → Prop) : LEx → LSt → Prop := fun e st => match e with
  | .exit _ => False
  | _ => K (st.tm 4) st.g
theorem en9_eq (K : LV → LHeap → Prop) : en9 K = endL Try.prog Try.f9 K := by
  funext e st
  cases e <;> kernel_rfl
noncomputable def nd9 (p : List Nat) : Code := subC p (bodyC Try.prog 9)
noncomputable def J9_11 (g : LHeap)  (K : LV → LHeap → Prop) : Prop :=
  K (.bool true) g
abbrev kj9_11  (K : LV → LHeap → Prop) : LSt → Prop := fun st => J9_11  st.g  K
theorem J9_11_ok  (K : LV → LHeap → Prop) (tm : Nat → LV) (g : LHeap) (h : J9_11  g  K) : codeL Try.prog (Ok Try.prog) (nd9 [1, 1, 1, 1, 1, 1, 1, 1, 1, 1, 1, 1]) ⟨tm, g⟩ (en9 K) := by
  try unfold J9_11 at h
  refine code2_sound ok_mono _ _ _ ?_
  refine kmp ?_ h
  generalize Ok Try.prog = C
  unfold en9
  as_aux_lemma => kernel_rfl

noncomputable def L9_13 (x5 x9 : LV) (x19 : LV) (g : LHeap) (N13 : LV → LHeap → Prop) (K : LV → LHeap → Prop) : Prop :=
  vK (binL Try.prog .lss 3 true x19 (.int .i64 (12))) fun t166 =>
  ifB t166 (
  Ok Try.prog 42 [x5, x19] g fun t172 g =>
  vK (extractL t172 0) fun t173 =>
  vK (extractL t172 1) fun t174 =>
  vK (binL Try.prog .neq 24 true t174 (.int .i64 (0))) fun t176 =>
  gd t176 false g (fun K => K t173 g) fun t178 g =>
  gd t176 false g (fun K => K x19 g) fun t179 g =>
  gd t176 false g (fun K => vK (ixAddrL (some 12) 1 x9 t179) fun v => K v g) fun t180 g =>
  gd t176 false g (fun K => vK (loadV none t180 g) fun v => K v g) fun t181 g =>
  gd t176 false g (fun K => Ok Try.prog 16 [t181, (.int .i64 (0))] g K) fun t182 g =>
  gd t176 false g (fun K => Ok Try.prog 14 [t178, t182] g K) fun t183 g =>
  gd t176 false g (fun K => vK (unL .not t183) fun v => K v g) fun t184 g =>
  vK (pickL t176 (.bool true) t184) fun t185 =>
  ifB t185 (
  K (.bool false) g) (
  vK (binL Try.prog .add 3 true x19 (.int .i64 (1))) fun t168 =>
  N13 t168 g)) (
  J9_11  g  K)
theorem L9_13_ok (R13 : LV × LV → LV → LHeap → Prop) (K : LV → LHeap → Prop) (tm : Nat → LV) (g : LHeap) (h : L9_13 (tm 5) (tm 9) (tm 19) g (fun s g => R13 ((tm 5), (tm 9)) s g) K) : codeL Try.prog (Ok Try.prog) (nd9 [1, 1, 1, 1, 1, 1, 1, 1, 1, 1, 1, 0, 1, 0, 0]) ⟨tm, g⟩ (roundK (fun tm : Nat → LV => (tm 5, tm 9)) (fun tm : Nat → LV => tm 19) R13 (exitL 5 (thenL (kj9_11  K) (en9 K)))) := by
  try unfold L9_13 at h
  unfold kj9_11
  generalize @J9_11 = Q9_11 at h ⊢
  refine code2_sound ok_mono _ _ _ ?_
  refine kmp ?_ h
  generalize Ok Try.prog = C
  unfold en9
  as_aux_lemma => kernel_rfl

noncomputable def J9_12 (x5 x9 x19 : LV) (g : LHeap)  (K : LV → LHeap → Prop) : Prop :=
  loopP (fun s g N => L9_13 x5 x9 s g N  K) x19 g
abbrev kj9_12  (K : LV → LHeap → Prop) : LSt → Prop := fun st => J9_12 (st.tm 5) (st.tm 9) (st.tm 19) st.g  K
theorem J9_12_ok  (K : LV → LHeap → Prop) (tm : Nat → LV) (g : LHeap) (h : J9_12 (tm 5) (tm 9) (tm 19) g  K) : codeL Try.prog (Ok Try.prog) (nd9 [1, 1, 1, 1, 1, 1, 1, 1, 1, 1, 1, 0, 1]) ⟨tm, g⟩ (thenL (kj9_11  K) (en9 K)) := by
  refine block_i (b := nd9 [1, 1, 1, 1, 1, 1, 1, 1, 1, 1, 1, 0, 1, 0]) (i := 5) (by kernel_rfl) ?_
  exact loop_glue (b := nd9 [1, 1, 1, 1, 1, 1, 1, 1, 1, 1, 1, 0, 1, 0, 0]) (by kernel_rfl) (fun tm : Nat → LV => (tm 5, tm 9)) (fun tm : Nat → LV => tm 19) (fun a s g N => L9_13 a.1 a.2 s g N  K) (fun tm g R h => L9_13_ok R  K tm g h) tm g h

noncomputable def J9_10 (x5 x9 : LV) (g : LHeap)  (K : LV → LHeap → Prop) : Prop :=
  J9_12 x5 x9 (.int .i64 (0)) g  K
abbrev kj9_10  (K : LV → LHeap → Prop) : LSt → Prop := fun st => J9_10 (st.tm 5) (st.tm 9) st.g  K
theorem J9_10_ok  (K : LV → LHeap → Prop) (tm : Nat → LV) (g : LHeap) (h : J9_10 (tm 5) (tm 9) g  K) : codeL Try.prog (Ok Try.prog) (nd9 [1, 1, 1, 1, 1, 1, 1, 1, 1, 1, 1]) ⟨tm, g⟩ (en9 K) := by
  refine seq_i (a := nd9 [1, 1, 1, 1, 1, 1, 1, 1, 1, 1, 1, 0]) (b := nd9 [1, 1, 1, 1, 1, 1, 1, 1, 1, 1, 1, 1]) (k' := kj9_11  K) (by kernel_rfl) (fun st h => J9_11_ok  K st.tm st.g h) ?_
  refine seq_i (a := nd9 [1, 1, 1, 1, 1, 1, 1, 1, 1, 1, 1, 0, 0]) (b := nd9 [1, 1, 1, 1, 1, 1, 1, 1, 1, 1, 1, 0, 1]) (k' := kj9_12  K) (by kernel_rfl) (fun st h => J9_12_ok  K st.tm st.g h) ?_
  try unfold J9_10 at h
  unfold kj9_12
  generalize @J9_12 = Q9_12 at h ⊢
  unfold kj9_11
  generalize @J9_11 = Q9_11 at h ⊢
  refine code2_sound ok_mono _ _ _ ?_
  refine kmp ?_ h
  generalize Ok Try.prog = C
  unfold en9
  as_aux_lemma => kernel_rfl

noncomputable def J9_9 (x5 x7 x9 : LV) (g : LHeap)  (K : LV → LHeap → Prop) : Prop :=
  Ok Try.prog 34 [x7] g fun t157 g =>
  oK (builtinL Try.prog .len [50] [t157] g) fun t158 g =>
  vK (binL Try.prog .neq 3 true t158 (.int .i64 (0))) fun t159 =>
  gd t159 false g (fun K => K x5 g) fun t161 g =>
  gd t159 false g (fun K => Ok Try.prog 41 [t161, .nils] g K) fun t162 g =>
  gd t159 false g (fun K => vK (binL Try.prog .neq 24 true t162 (.int .i64 (0))) fun v => K v g) fun t163 g =>
  vK (pickL t159 (.bool true) t163) fun t164 =>
  ifB t164 (
  K (.bool false) g) (
  J9_10 x5 x9 g  K)
abbrev kj9_9  (K : LV → LHeap → Prop) : LSt → Prop := fun st => J9_9 (st.tm 5) (st.tm 7) (st.tm 9) st.g  K
theorem J9_9_ok  (K : LV → LHeap → Prop) (tm : Nat → LV) (g : LHeap) (h : J9_9 (tm 5) (tm 7) (tm 9) g  K) : codeL Try.prog (Ok Try.prog) (nd9 [1, 1, 1, 1, 1, 1, 1, 1, 1, 1]) ⟨tm, g⟩ (en9 K) := by
  refine seq_i (a := nd9 [1, 1, 1, 1, 1, 1, 1, 1, 1, 1, 0]) (b := nd9 [1, 1, 1, 1, 1, 1, 1, 1, 1, 1, 1]) (k' := kj9_10  K) (by kernel_rfl) (fun st h => J9_10_ok  K st.tm st.g h) ?_
  try unfold J9_9 at h
  unfold kj9_10
  generalize @J9_10 = Q9_10 at h ⊢
  refine code2_sound ok_mono _ _ _ ?_
  refine kmp ?_ h
  generalize Ok Try.prog = C
  unfold en9
  as_aux_lemma => kernel_rfl

noncomputable def J9_8 (x5 x7 x9 : LV) (g : LHeap)  (K : LV → LHeap → Prop) : Prop :=
  Ok Try.prog 40 [x5] g fun t155 g =>
  J9_9 x5 x7 x9 g  K
abbrev kj9_8  (K : LV → LHeap → Prop) : LSt → Prop := fun st => J9_8 (st.tm 5) (st.tm 7) (st.tm 9) st.g  K
theorem J9_8_ok  (K : LV → LHeap → Prop) (tm : Nat → LV) (g : LHeap) (h : J9_8 (tm 5) (tm 7) (tm 9) g  K) : codeL Try.prog (Ok Try.prog) (nd9 [1, 1, 1, 1, 1, 1, 1, 1, 1]) ⟨tm, g⟩ (en9 K) := by
  refine seq_i (a := nd9 [1, 1, 1, 1, 1, 1, 1, 1, 1, 0]) (b := nd9 [1, 1, 1, 1, 1, 1, 1, 1, 1, 1]) (k' := kj9_9  K) (by kernel_rfl) (fun st h => J9_9_ok  K st.tm st.g h) ?_
  try unfold J9_8 at h
  unfold kj9_9
  generalize @J9_9 = Q9_9 at h ⊢
  refine code2_sound ok_mono _ _ _ ?_
  refine kmp ?_ h
  generalize Ok Try.prog = C
  unfold en9
  as_aux_lemma => kernel_rfl

noncomputable def L9_15 (x5 x7 x9 x15 : LV) (x16 : LV) (g : LHeap) (N15 : LV → LHeap → Prop) (K : LV → LHeap → Prop) : Prop :=
  oK (builtinL Try.prog .len [50] [x15] g) fun t135 g =>
  vK (binL Try.prog .lss 3 false x16 t135) fun t136 =>
  ifB t136 (
  vK (ixAddrL none 1 x15 x16) fun t143 =>
  vK (loadV none t143 g) fun t144 =>
  Ok Try.prog 17 [x7, t144] g fun t145 g =>
  vK (extractL t145 0) fun t146 =>
  vK (extractL t145 1) fun t147 =>
  vK (unL .not t146) fun t149 =>
  gd t149 false g (fun K => K t147 g) fun t151 g =>
  gd t149 false g (fun K => vK (binL Try.prog .neq 24 true t151 (.int .i64 (0))) fun v => K v g) fun t152 g =>
  vK (pickL t149 (.bool true) t152) fun t153 =>
  ifB t153 (
  K (.bool false) g) (
  vK (binL Try.prog .add 3 true x16 (.int .i64 (1))) fun t138 =>
  N15 t138 g)) (
  J9_8 x5 x7 x9 g  K)
theorem L9_15_ok (R15 : LV × LV × LV × LV → LV → LHeap → Prop) (K : LV → LHeap → Prop) (tm : Nat → LV) (g : LHeap) (h : L9_15 (tm 5) (tm 7) (tm 9) (tm 15) (tm 16) g (fun s g => R15 ((tm 5), (tm 7), (tm 9), (tm 15)) s g) K) : codeL Try.prog (Ok Try.prog) (nd9 [1, 1, 1, 1, 1, 1, 1, 1, 0, 1, 0, 0]) ⟨tm, g⟩ (roundK (fun tm : Nat → LV => (tm 5, tm 7, tm 9, tm 15)) (fun tm : Nat → LV => tm 16) R15 (exitL 3 (thenL (kj9_8  K) (en9 K)))) := by
  try unfold L9_15 at h
  unfold kj9_8
  generalize @J9_8 = Q9_8 at h ⊢
  refine code2_sound ok_mono _ _ _ ?_
  refine kmp ?_ h
  generalize Ok Try.prog = C
  unfold en9
  as_aux_lemma => kernel_rfl

noncomputable def J9_14 (x5 x7 x9 x15 x16 : LV) (g : LHeap)  (K : LV → LHeap → Prop) : Prop :=
  loopP (fun s g N => L9_15 x5 x7 x9 x15 s g N  K) x16 g
abbrev kj9_14  (K : LV → LHeap → Prop) : LSt → Prop := fun st => J9_14 (st.tm 5) (st.tm 7) (st.tm 9) (st.tm 15) (st.tm 16) st.g  K
theorem J9_14_ok  (K : LV → LHeap → Prop) (tm : Nat → LV) (g : LHeap) (h : J9_14 (tm 5) (tm 7) (tm 9) (tm 15) (tm 16) g  K) : codeL Try.prog (Ok Try.prog) (nd9 [1, 1, 1, 1, 1, 1, 1, 1, 0, 1]) ⟨tm, g⟩ (thenL (kj9_8  K) (en9 K)) := by
  refine block_i (b := nd9 [1, 1, 1, 1, 1, 1, 1, 1, 0, 1, 0]) (i := 3) (by kernel_rfl) ?_
  exact loop_glue (b := nd9 [1, 1, 1, 1, 1, 1, 1, 1, 0, 1, 0, 0]) (by kernel_rfl) (fun tm : Nat → LV => (tm 5, tm 7, tm 9, tm 15)) (fun tm : Nat → LV => tm 16) (fun a s g N => L9_15 a.1 a.2.1 a.2.2.1 a.2.2.2 s g N  K) (fun tm g R h => L9_15_ok R  K tm g h) tm g h

noncomputable def J9_7 (x5 x7 x9 x15 : LV) (g : LHeap)  (K : LV → LHeap → Prop) : Prop :=
  J9_14 x5 x7 x9 x15 (.int .i64 (0)) g  K
abbrev kj9_7  (K : LV → LHeap → Prop) : LSt → Prop := fun st => J9_7 (st.tm 5) (st.tm 7) (st.tm 9) (st.tm 15) st.g  K
theorem J9_7_ok  (K : LV → LHeap → Prop) (tm : Nat → LV) (g : LHeap) (h : J9_7 (tm 5) (tm 7) (tm 9) (tm 15) g  K) : codeL Try.prog (Ok Try.prog) (nd9 [1, 1, 1, 1, 1, 1, 1, 1]) ⟨tm, g⟩ (en9 K) := by
  refine seq_i (a := nd9 [1, 1, 1, 1, 1, 1, 1, 1, 0]) (b := nd9 [1, 1, 1, 1, 1, 1, 1, 1, 1]) (k' := kj9_8  K) (by kernel_rfl) (fun st h => J9_8_ok  K st.tm st.g h) ?_
  refine seq_i (a := nd9 [1, 1, 1, 1, 1, 1, 1, 1, 0, 0]) (b := nd9 [1, 1, 1, 1, 1, 1, 1, 1, 0, 1]) (k' := kj9_14  K) (by kernel_rfl) (fun st h => J9_14_ok  K st.tm st.g h) ?_
  try unfold J9_7 at h
  unfold kj9_14
  generalize @J9_14 = Q9_14 at h ⊢
  unfold kj9_8
  generalize @J9_8 = Q9_8 at h ⊢
  refine code2_sound ok_mono _ _ _ ?_
  refine kmp ?_ h
  generalize Ok Try.prog = C
  unfold en9
  as_aux_lemma => kernel_rfl

noncomputable def J9_6 (x5 x7 x9 : LV) (g : LHeap)  (K : LV → LHeap → Prop) : Prop :=
  Ok Try.prog 34 [x7] g fun t132 g =>
  J9_7 x5 x7 x9 t132 g  K
abbrev kj9_6  (K : LV → LHeap → Prop) : LSt → Prop := fun st => J9_6 (st.tm 5) (st.tm 7) (st.tm 9) st.g  K
theorem J9_6_ok  (K : LV → LHeap → Prop) (tm : Nat → LV) (g : LHeap) (h : J9_6 (tm 5) (tm 7) (tm 9) g  K) : codeL Try.prog (Ok Try.prog) (nd9 [1, 1, 1, 1, 1, 1, 1]) ⟨tm, g⟩ (en9 K) := by
  refine seq_i (a := nd9 [1, 1, 1, 1, 1, 1, 1, 0]) (b := nd9 [1, 1, 1, 1, 1, 1, 1, 1]) (k' := kj9_7  K) (by kernel_rfl) (fun st h => J9_7_ok  K st.tm st.g h) ?_
  try unfold J9_6 at h
  unfold kj9_7
  generalize @J9_7 = Q9_7 at h ⊢
  refine code2_sound ok_mono _ _ _ ?_
  refine kmp ?_ h
  generalize Ok Try.prog = C
  unfold en9
  as_aux_lemma => kernel_rfl

noncomputable def L9_17 (x1 x5 x7 x9 : LV) (x10 : LV) (g : LHeap) (N17 : LV → LHeap → Prop) (K : LV → LHeap → Prop) : Prop :=
  oK (builtinL Try.prog .len [22] [x1] g) fun t56 g =>
  vK (binL Try.prog .lss 3 false x10 t56) fun t57 =>
  ifB t57 (
  vK (ixAddrL none 4 x1 x10) fun t62 =>
  vK (loadV (some 4) t62 g) fun t63 =>
  oK (newL (.agg [(.int .i64 (0)), (.int .i64 (0)), (.int .u8 (0)), (.int .i64 (0))]) g) fun t11 g =>
  gK (storeV 4 t11 t63 g) fun g =>
  vK (fieldAddrL 0 t11) fun t64 =>
  vK (loadV none t64 g) fun t65 =>
  vK (binL Try.prog .eql 3 true t65 (.int .i64 (1))) fun t67 =>
  ifB t67 (
  vK (fieldAddrL 1 t11) fun t70 =>
  vK (loadV none t70 g) fun t71 =>
  Ok Try.prog 13 [x7, t71] g fun t72 g =>
  vK (extractL t72 0) fun t73 =>
  vK (extractL t72 1) fun t74 =>
  vK (binL Try.prog .eql 24 true t74 (.int .i64 (0))) fun t76 =>
  gd t76 true g (fun K => vK (fieldAddrL 1 t11) fun v => K v g) fun t78 g =>
  gd t76 true g (fun K => vK (loadV none t78 g) fun v => K v g) fun t79 g =>
  gd t76 true g (fun K => vK (binL Try.prog .lss 3 true t79 (.int .i64 (0))) fun v => K v g) fun t80 g =>
  gd t76 true g (fun K => K t80 g) fun t81 g =>
  gd t81 false g (fun K => vK (fieldAddrL 1 t11) fun v => K v g) fun t82 g =>
  gd t81 false g (fun K => vK (loadV none t82 g) fun v => K v g) fun t83 g =>
  gd t81 false g (fun K => vK (binL Try.prog .gtr 3 true t83 (.int .i64 (11))) fun v => K v g) fun t84 g =>
  gd t76 true g (fun K => vK (pickL t81 (.bool true) t84) fun v => K v g) fun t85 g =>
  gd t76 true g (fun K => K t85 g) fun t86 g =>
  gd t86 false g (fun K => K t73 g) fun t87 g =>
  gd t86 false g (fun K => vK (fieldAddrL 1 t11) fun v => K v g) fun t88 g =>
  gd t86 false g (fun K => vK (loadV none t88 g) fun v => K v g) fun t89 g =>
  gd t86 false g (fun K => vK (ixAddrL (some 12) 1 x9 t89) fun v => K v g) fun t90 g =>
  gd t86 false g (fun K => vK (loadV none t90 g) fun v => K v g) fun t91 g =>
  gd t86 false g (fun K => Ok Try.prog 16 [t91, (.int .i64 (0))] g K) fun t92 g =>
  gd t86 false g (fun K => Ok Try.prog 14 [t87, t92] g K) fun t93 g =>
  gd t86 false g (fun K => vK (unL .not t93) fun v => K v g) fun t94 g =>
  gd t76 true g (fun K => vK (pickL t86 (.bool true) t94) fun v => K v g) fun t95 g =>
  vK (pickL t76 t95 (.bool false)) fun t96 =>
  ifB t96 (
  K (.bool false) g) (
  vK (binL Try.prog .add 3 true x10 (.int .i64 (1))) fun t59 =>
  N17 t59 g)) (
  vK (binL Try.prog .eql 3 true t65 (.int .i64 (2))) fun t98 =>
  ifB t98 (
  vK (fieldAddrL 1 t11) fun t100 =>
  vK (loadV none t100 g) fun t101 =>
  vK (fieldAddrL 2 t11) fun t102 =>
  vK (loadV none t102 g) fun t103 =>
  ((Ok Try.prog 16 [t103, (.int .i64 (0))] g fun t104 g =>
  ((loadV none t100 g) = some t101 ∧ 
  ((Ok Try.prog 15 [x7, t101, t104] g fun t105 g =>
  
  vK (binL Try.prog .eql 24 true t105 (.int .i64 (0))) fun t107 =>
  ifB t107 (
  vK (fieldAddrL 1 t11) fun t108 =>
  vK (loadV none t108 g) fun t109 =>
  vK (binL Try.prog .lss 3 true t109 (.int .i64 (0))) fun t110 =>
  gd t110 false g (fun K => vK (fieldAddrL 1 t11) fun v => K v g) fun t112 g =>
  gd t110 false g (fun K => vK (loadV none t112 g) fun v => K v g) fun t113 g =>
  gd t110 false g (fun K => vK (binL Try.prog .gtr 3 true t113 (.int .i64 (11))) fun v => K v g) fun t114 g =>
  vK (pickL t110 (.bool true) t114) fun t115 =>
  ifB t115 (
  K (.bool false) g) (
  vK (fieldAddrL 1 t11) fun t116 =>
  vK (loadV none t116 g) fun t117 =>
  vK (fieldAddrL 2 t11) fun t118 =>
  vK (loadV none t118 g) fun t119 =>
  vK (ixAddrL (some 12) 1 x9 t117) fun t120 =>
  gK (storeV 1 t120 t119 g) fun g =>
  vK (binL Try.prog .add 3 true x10 (.int .i64 (1))) fun t59 =>
  N17 t59 g)) (
  vK (binL Try.prog .add 3 true x10 (.int .i64 (1))) fun t59 =>
  N17 t59 g)) ∧ True))) ∧ True)) (
  vK (binL Try.prog .eql 3 true t65 (.int .i64 (3))) fun t122 =>
  ifB t122 (
  vK (fieldAddrL 1 t11) fun t124 =>
  vK (loadV none t124 g) fun t125 =>
  Ok Try.prog 17 [x7, t125] g fun t126 g =>
  vK (binL Try.prog .add 3 true x10 (.int .i64 (1))) fun t59 =>
  N17 t59 g) (
  vK (binL Try.prog .eql 3 true t65 (.int .i64 (4))) fun t128 =>
  ifB t128 (
  Ok Try.prog 18 [x7] g fun t130 g =>
  vK (binL Try.prog .add 3 true x10 (.int .i64 (1))) fun t59 =>
  N17 t59 g) (
  vK (binL Try.prog .add 3 true x10 (.int .i64 (1))) fun t59 =>
  N17 t59 g))))) (
  J9_6 x5 x7 x9 g  K)
theorem L9_17_ok (R17 : LV × LV × LV × LV → LV → LHeap → Prop) (K : LV → LHeap → Prop) (tm : Nat → LV) (g : LHeap) (h : L9_17 (tm 1) (tm 5) (tm 7) (tm 9) (tm 10) g (fun s g => R17 ((tm 1), (tm 5), (tm 7), (tm 9)) s g) K) : codeL Try.prog (Ok Try.prog) (nd9 [1, 1, 1, 1, 1, 1, 0, 1, 0, 0]) ⟨tm, g⟩ (roundK (fun tm : Nat → LV => (tm 1, tm 5, tm 7, tm 9)) (fun tm : Nat → LV => tm 10) R17 (exitL 0 (thenL (kj9_6  K) (en9 K)))) := by
  try unfold L9_17 at h
  unfold kj9_6
  generalize @J9_6 = Q9_6 at h ⊢
  refine code2_sound ok_mono _ _ _ ?_
  refine kmp ?_ h
  generalize Ok Try.prog = C
  unfold en9
  as_aux_lemma => kernel_rfl

noncomputable def J9_16 (x1 x5 x7 x9 x10 : LV) (g : LHeap)  (K : LV → LHeap → Prop) : Prop :=
  loopP (fun s g N => L9_17 x1 x5 x7 x9 s g N  K) x10 g
abbrev kj9_16  (K : LV → LHeap → Prop) : LSt → Prop := fun st => J9_16 (st.tm 1) (st.tm 5) (st.tm 7) (st.tm 9) (st.tm 10) st.g  K
theorem J9_16_ok  (K : LV → LHeap → Prop) (tm : Nat → LV) (g : LHeap) (h : J9_16 (tm 1) (tm 5) (tm 7) (tm 9) (tm 10) g  K) : codeL Try.prog (Ok Try.prog) (nd9 [1, 1, 1, 1, 1, 1, 0, 1]) ⟨tm, g⟩ (thenL (kj9_6  K) (en9 K)) := by
  refine block_i (b := nd9 [1, 1, 1, 1, 1, 1, 0, 1, 0]) (i := 0) (by kernel_rfl) ?_
  exact loop_glue (b := nd9 [1, 1, 1, 1, 1, 1, 0, 1, 0, 0]) (by kernel_rfl) (fun tm : Nat → LV => (tm 1, tm 5, tm 7, tm 9)) (fun tm : Nat → LV => tm 10) (fun a s g N => L9_17 a.1 a.2.1 a.2.2.1 a.2.2.2 s g N  K) (fun tm g R h => L9_17_ok R  K tm g h) tm g h

noncomputable def J9_5 (x1 x5 x7 x9 : LV) (g : LHeap)  (K : LV → LHeap → Prop) : Prop :=
  J9_16 x1 x5 x7 x9 (.int .i64 (0)) g  K
abbrev kj9_5  (K : LV → LHeap → Prop) : LSt → Prop := fun st => J9_5 (st.tm 1) (st.tm 5) (st.tm 7) (st.tm 9) st.g  K
theorem J9_5_ok  (K : LV → LHeap → Prop) (tm : Nat → LV) (g : LHeap) (h : J9_5 (tm 1) (tm 5) (tm 7) (tm 9) g  K) : codeL Try.prog (Ok Try.prog) (nd9 [1, 1, 1, 1, 1, 1]) ⟨tm, g⟩ (en9 K) := by
  refine seq_i (a := nd9 [1, 1, 1, 1, 1, 1, 0]) (b := nd9 [1, 1, 1, 1, 1, 1, 1]) (k' := kj9_6  K) (by kernel_rfl) (fun st h => J9_6_ok  K st.tm st.g h) ?_
  refine seq_i (a := nd9 [1, 1, 1, 1, 1, 1, 0, 0]) (b := nd9 [1, 1, 1, 1, 1, 1, 0, 1]) (k' := kj9_16  K) (by kernel_rfl) (fun st h => J9_16_ok  K st.tm st.g h) ?_
  try unfold J9_5 at h
  unfold kj9_16
  generalize @J9_16 = Q9_16 at h ⊢
  unfold kj9_6
  generalize @J9_6 = Q9_6 at h ⊢
  refine code2_sound ok_mono _ _ _ ?_
  refine kmp ?_ h
  generalize Ok Try.prog = C
  unfold en9
  as_aux_lemma => kernel_rfl

noncomputable def J9_4 (x1 x5 x7 : LV) (g : LHeap)  (K : LV → LHeap → Prop) : Prop :=
  oK (newL (.agg [(.int .u8 (0)), (.int .u8 (0)), (.int .u8 (0)), (.int .u8 (0)), (.int .u8 (0)), (.int .u8 (0)), (.int .u8 (0)), (.int .u8 (0)), (.int .u8 (0)), (.int .u8 (0)), (.int .u8 (0)), (.int .u8 (0))]) g) fun t9 g =>
  J9_5 x1 x5 x7 t9 g  K
abbrev kj9_4  (K : LV → LHeap → Prop) : LSt → Prop := fun st => J9_4 (st.tm 1) (st.tm 5) (st.tm 7) st.g  K
theorem J9_4_ok  (K : LV → LHeap → Prop) (tm : Nat → LV) (g : LHeap) (h : J9_4 (tm 1) (tm 5) (tm 7) g  K) : codeL Try.prog (Ok Try.prog) (nd9 [1, 1, 1, 1, 1]) ⟨tm, g⟩ (en9 K) := by
  refine seq_i (a := nd9 [1, 1, 1, 1, 1, 0]) (b := nd9 [1, 1, 1, 1, 1, 1]) (k' := kj9_5  K) (by kernel_rfl) (fun st h => J9_5_ok  K st.tm st.g h) ?_
  try unfold J9_4 at h
  unfold kj9_5
  generalize @J9_5 = Q9_5 at h ⊢
  refine code2_sound ok_mono _ _ _ ?_
  refine kmp ?_ h
  generalize Ok Try.prog = C
  unfold en9
  as_aux_lemma => kernel_rfl

noncomputable def J9_3 (x1 x5 x7 x8 : LV) (g : LHeap)  (K : LV → LHeap → Prop) : Prop :=
  vK (binL Try.prog .neq 24 true x8 (.int .i64 (0))) fun t43 =>
  gd t43 false g (fun K => K x7 g) fun t45 g =>
  gd t43 false g (fun K => vK (binL Try.prog .eql 28 true t45 .nilp) fun v => K v g) fun t46 g =>
  vK (pickL t43 (.bool true) t46) fun t47 =>
  ifB t47 (
  vK (binL Try.prog .eql 28 true x7 .nilp) fun t49 =>
  gd t49 true g (fun K => K x8 g) fun t51 g =>
  gd t49 true g (fun K => vK (binL Try.prog .eql 24 true t51 (.int .i64 (1))) fun v => K v g) fun t52 g =>
  vK (pickL t49 t52 (.bool false)) fun t53 =>
  K t53 g) (
  J9_4 x1 x5 x7 g  K)
abbrev kj9_3  (K : LV → LHeap → Prop) : LSt → Prop := fun st => J9_3 (st.tm 1) (st.tm 5) (st.tm 7) (st.tm 8) st.g  K
theorem J9_3_ok  (K : LV → LHeap → Prop) (tm : Nat → LV) (g : LHeap) (h : J9_3 (tm 1) (tm 5) (tm 7) (tm 8) g  K) : codeL Try.prog (Ok Try.prog) (nd9 [1, 1, 1, 1]) ⟨tm, g⟩ (en9 K) := by
  refine seq_i (a := nd9 [1, 1, 1, 1, 0]) (b := nd9 [1, 1, 1, 1, 1]) (k' := kj9_4  K) (by kernel_rfl) (fun st h => J9_4_ok  K st.tm st.g h) ?_
  try unfold J9_3 at h
  unfold kj9_4
  generalize @J9_4 = Q9_4 at h ⊢
  refine code2_sound ok_mono _ _ _ ?_
  refine kmp ?_ h
  generalize Ok Try.prog = C
  unfold en9
  as_aux_lemma => kernel_rfl

noncomputable def J9_2 (x0 x1 x5 : LV) (g : LHeap)  (K : LV → LHeap → Prop) : Prop :=
  Ok Try.prog 12 [x5, x0] g fun t39 g =>
  vK (extractL t39 0) fun t40 =>
  vK (extractL t39 1) fun t41 =>
  J9_3 x1 x5 t40 t41 g  K
abbrev kj9_2  (K : LV → LHeap → Prop) : LSt → Prop := fun st => J9_2 (st.tm 0) (st.tm 1) (st.tm 5) st.g  K
theorem J9_2_ok  (K : LV → LHeap → Prop) (tm : Nat → LV) (g : LHeap) (h : J9_2 (tm 0) (tm 1) (tm 5) g  K) : codeL Try.prog (Ok Try.prog) (nd9 [1, 1, 1]) ⟨tm, g⟩ (en9 K) := by
  refine seq_i (a := nd9 [1, 1, 1, 0]) (b := nd9 [1, 1, 1, 1]) (k' := kj9_3  K) (by kernel_rfl) (fun st h => J9_3_ok  K st.tm st.g h) ?_
  try unfold J9_2 at h
  unfold kj9_3
  generalize @J9_3 = Q9_3 at h ⊢
  refine code2_sound ok_mono _ _ _ ?_
  refine kmp ?_ h
  generalize Ok Try.prog = C
  unfold en9
  as_aux_lemma => kernel_rfl

noncomputable def J9_1 (x0 x1 x5 x6 : LV) (g : LHeap)  (K : LV → LHeap → Prop) : Prop :=
  vK (binL Try.prog .neq 24 true x6 (.int .i64 (0))) fun t27 =>
  gd t27 false g (fun K => K x5 g) fun t29 g =>
  gd t27 false g (fun K => vK (binL Try.prog .eql 23 true t29 .nilp) fun v => K v g) fun t30 g =>
  vK (pickL t27 (.bool true) t30) fun t31 =>
  gd t31 false g (fun K => Ok Try.prog 11 [] g K) fun t33 g =>
  gd t31 false g (fun K => vK (unL .not t33) fun v => K v g) fun t34 g =>
  vK (pickL t31 (.bool true) t34) fun t35 =>
  ifB t35 (
  K (.bool false) g) (
  J9_2 x0 x1 x5 g  K)
abbrev kj9_1  (K : LV → LHeap → Prop) : LSt → Prop := fun st => J9_1 (st.tm 0) (st.tm 1) (st.tm 5) (st.tm 6) st.g  K
theorem J9_1_ok  (K : LV → LHeap → Prop) (tm : Nat → LV) (g : LHeap) (h : J9_1 (tm 0) (tm 1) (tm 5) (tm 6) g  K) : codeL Try.prog (Ok Try.prog) (nd9 [1, 1]) ⟨tm, g⟩ (en9 K) := by
  refine seq_i (a := nd9 [1, 1, 0]) (b := nd9 [1, 1, 1]) (k' := kj9_2  K) (by kernel_rfl) (fun st h => J9_2_ok  K st.tm st.g h) ?_
  try unfold J9_1 at h
  unfold kj9_2
  generalize @J9_2 = Q9_2 at h ⊢
  refine code2_sound ok_mono _ _ _ ?_
  refine kmp ?_ h
  generalize Ok Try.prog = C
  unfold en9
  as_aux_lemma => kernel_rfl

noncomputable def J9_0 (x0 x1 : LV) (g : LHeap)  (K : LV → LHeap → Prop) : Prop :=
  Ok Try.prog 10 [(.int .i64 (12))] g fun t23 g =>
  vK (extractL t23 0) fun t24 =>
  vK (extractL t23 1) fun t25 =>
  J9_1 x0 x1 t24 t25 g  K
abbrev kj9_0  (K : LV → LHeap → Prop) : LSt → Prop := fun st => J9_0 (st.tm 0) (st.tm 1) st.g  K
theorem J9_0_ok  (K : LV → LHeap → Prop) (tm : Nat → LV) (g : LHeap) (h : J9_0 (tm 0) (tm 1) g  K) : codeL Try.prog (Ok Try.prog) (nd9 [1]) ⟨tm, g⟩ (en9 K) := by
  refine seq_i (a := nd9 [1, 0]) (b := nd9 [1, 1]) (k' := kj9_1  K) (by kernel_rfl) (fun st h => J9_1_ok  K st.tm st.g h) ?_
  try unfold J9_0 at h
  unfold kj9_1
  generalize @J9_1 = Q9_1 at h ⊢
  refine code2_sound ok_mono _ _ _ ?_
  refine kmp ?_ h
  generalize Ok Try.prog = C
  unfold en9
  as_aux_lemma => kernel_rfl

noncomputable def F9 (x0 x1 : LV) (g : LHeap) (K : LV → LHeap → Prop) : Prop :=
  J9_0 x0 x1 g  K
theorem ok9 {x0 x1 : LV} {g : LHeap} {K : LV → LHeap → Prop} (h : g.Wf → (∀ v ∈ ([x0, x1] : List LV), ∀ b ∈ v.objs, b < g.next) → F9 x0 x1 g K) : Ok Try.prog 9 [x0, x1] g K := by
  refine ok_fw Try.mixed Try.func9 (by kernel_rfl) (by kernel_rfl) (c := nd9 []) (by kernel_rfl) fun wf lt => ?_
  rw [← en9_eq]
  replace h := h wf lt
  generalize hs : startL _ = tm
  replace h : F9 (tm 0) (tm 1) g K := by rw [← hs]; exact h
  refine seq_i (a := nd9 [0]) (b := nd9 [1]) (k' := kj9_0  K) (by kernel_rfl) (fun st h => J9_0_ok  K st.tm st.g h) ?_
  try unfold F9 at h
  unfold kj9_0
  generalize @J9_0 = Q9_0 at h ⊢
  refine code2_sound ok_mono _ _ _ ?_
  refine kmp ?_ h
  generalize Ok Try.prog = C
  unfold en9
  as_aux_lemma => kernel_rfl

/-! parapet/parapetlaw15.sameBytes (26 slots) -/
noncomputable def en14 (K : LV → LHeap → Prop) : LEx → LSt → Prop := fun e st => match e with
  | .exit _ => False
  | _ => K (st.tm 4) st.g
theorem en14_eq (K : LV → LHeap → Prop) : en14 K = endL Try.prog Try.f14 K := by
  funext e st
  cases e <;> kernel_rfl
noncomputable def nd14 (p : List Nat) : Code := subC p (bodyC Try.prog 14)
noncomputable def J14_2 (g : LHeap)  (K : LV → LHeap → Prop) : Prop :=
  K (.bool true) g
abbrev kj14_2  (K : LV → LHeap → Prop) : LSt → Prop := fun st => J14_2  st.g  K
theorem J14_2_ok  (K : LV → LHeap → Prop) (tm : Nat → LV) (g : LHeap) (h : J14_2  g  K) : codeL Try.prog (Ok Try.prog) (nd14 [1, 1, 1]) ⟨tm, g⟩ (en14 K) := by
  try unfold J14_2 at h
  refine code2_sound ok_mono _ _ _ ?_
  refine kmp ?_ h
  generalize Ok Try.prog = C
  unfold en14
  as_aux_lemma => kernel_rfl

noncomputable def L14_4 (x0 x1 : LV) (x5 : LV) (g : LHeap) (N4 : LV → LHeap → Prop) (K : LV → LHeap → Prop) : Prop :=
  oK (builtinL Try.prog .len [33] [x0] g) fun t13 g =>
  vK (binL Try.prog .lss 3 false x5 t13) fun t14 =>
  ifB t14 (
  vK (ixAddrL none 1 x0 x5) fun t19 =>
  vK (loadV none t19 g) fun t20 =>
  vK (ixAddrL none 1 x1 x5) fun t23 =>
  vK (loadV none t23 g) fun t24 =>
  vK (binL Try.prog .neq 5 false t20 t24) fun t25 =>
  ifB t25 (
  K (.bool false) g) (
  vK (binL Try.prog .add 3 true x5 (.int .i64 (1))) fun t16 =>
  N4 t16 g)) (
  J14_2  g  K)
theorem L14_4_ok (R4 : LV × LV → LV → LHeap → Prop) (K : LV → LHeap → Prop) (tm : Nat → LV) (g : LHeap) (h : L14_4 (tm 0) (tm 1) (tm 5) g (fun s g => R4 ((tm 0), (tm 1)) s g) K) : codeL Try.prog (Ok Try.prog) (nd14 [1, 1, 0, 1, 0, 0]) ⟨tm, g⟩ (roundK (fun tm : Nat → LV => (tm 0, tm 1)) (fun tm : Nat → LV => tm 5) R4 (exitL 0 (thenL (kj14_2  K) (en14 K)))) := by
  try unfold L14_4 at h
  unfold kj14_2
  generalize @J14_2 = Q14_2 at h ⊢
  refine code2_sound ok_mono _ _ _ ?_
  refine kmp ?_ h
  generalize Ok Try.prog = C
  unfold en14
  as_aux_lemma => kernel_rfl

noncomputable def J14_3 (x0 x1 x5 : LV) (g : LHeap)  (K : LV → LHeap → Prop) : Prop :=
  loopP (fun s g N => L14_4 x0 x1 s g N  K) x5 g
abbrev kj14_3  (K : LV → LHeap → Prop) : LSt → Prop := fun st => J14_3 (st.tm 0) (st.tm 1) (st.tm 5) st.g  K
theorem J14_3_ok  (K : LV → LHeap → Prop) (tm : Nat → LV) (g : LHeap) (h : J14_3 (tm 0) (tm 1) (tm 5) g  K) : codeL Try.prog (Ok Try.prog) (nd14 [1, 1, 0, 1]) ⟨tm, g⟩ (thenL (kj14_2  K) (en14 K)) := by
  refine block_i (b := nd14 [1, 1, 0, 1, 0]) (i := 0) (by kernel_rfl) ?_
  exact loop_glue (b := nd14 [1, 1, 0, 1, 0, 0]) (by kernel_rfl) (fun tm : Nat → LV => (tm 0, tm 1)) (fun tm : Nat → LV => tm 5) (fun a s g N => L14_4 a.1 a.2 s g N  K) (fun tm g R h => L14_4_ok R  K tm g h) tm g h

noncomputable def J14_1 (x0 x1 : LV) (g : LHeap)  (K : LV → LHeap → Prop) : Prop :=
  J14_3 x0 x1 (.int .i64 (0)) g  K
abbrev kj14_1  (K : LV → LHeap → Prop) : LSt → Prop := fun st => J14_1 (st.tm 0) (st.tm 1) st.g  K
theorem J14_1_ok  (K : LV → LHeap → Prop) (tm : Nat → LV) (g : LHeap) (h : J14_1 (tm 0) (tm 1) g  K) : codeL Try.prog (Ok Try.prog) (nd14 [1, 1]) ⟨tm, g⟩ (en14 K) := by
  refine seq_i (a := nd14 [1, 1, 0]) (b := nd14 [1, 1, 1]) (k' := kj14_2  K) (by kernel_rfl) (fun st h => J14_2_ok  K st.tm st.g h) ?_
  refine seq_i (a := nd14 [1, 1, 0, 0]) (b := nd14 [1, 1, 0, 1]) (k' := kj14_3  K) (by kernel_rfl) (fun st h => J14_3_ok  K st.tm st.g h) ?_
  try unfold J14_1 at h
  unfold kj14_3
  generalize @J14_3 = Q14_3 at h ⊢
  unfold kj14_2
  generalize @J14_2 = Q14_2 at h ⊢
  refine code2_sound ok_mono _ _ _ ?_
  refine kmp ?_ h
  generalize Ok Try.prog = C
  unfold en14
  as_aux_lemma => kernel_rfl

noncomputable def J14_0 (x0 x1 : LV) (g : LHeap)  (K : LV → LHeap → Prop) : Prop :=
  oK (builtinL Try.prog .len [33] [x0] g) fun t7 g =>
  oK (builtinL Try.prog .len [33] [x1] g) fun t9 g =>
  vK (binL Try.prog .neq 3 false t7 t9) fun t10 =>
  ifB t10 (
  K (.bool false) g) (
  J14_1 x0 x1 g  K)
abbrev kj14_0  (K : LV → LHeap → Prop) : LSt → Prop := fun st => J14_0 (st.tm 0) (st.tm 1) st.g  K
theorem J14_0_ok  (K : LV → LHeap → Prop) (tm : Nat → LV) (g : LHeap) (h : J14_0 (tm 0) (tm 1) g  K) : codeL Try.prog (Ok Try.prog) (nd14 [1]) ⟨tm, g⟩ (en14 K) := by
  refine seq_i (a := nd14 [1, 0]) (b := nd14 [1, 1]) (k' := kj14_1  K) (by kernel_rfl) (fun st h => J14_1_ok  K st.tm st.g h) ?_
  try unfold J14_0 at h
  unfold kj14_1
  generalize @J14_1 = Q14_1 at h ⊢
  refine code2_sound ok_mono _ _ _ ?_
  refine kmp ?_ h
  generalize Ok Try.prog = C
  unfold en14
  as_aux_lemma => kernel_rfl

noncomputable def F14 (x0 x1 : LV) (g : LHeap) (K : LV → LHeap → Prop) : Prop :=
  J14_0 x0 x1 g  K
theorem ok14 {x0 x1 : LV} {g : LHeap} {K : LV → LHeap → Prop} (h : g.Wf → (∀ v ∈ ([x0, x1] : List LV), ∀ b ∈ v.objs, b < g.next) → F14 x0 x1 g K) : Ok Try.prog 14 [x0, x1] g K := by
  refine ok_fw Try.mixed Try.func14 (by kernel_rfl) (by kernel_rfl) (c := nd14 []) (by kernel_rfl) fun wf lt => ?_
  rw [← en14_eq]
  replace h := h wf lt
  generalize hs : startL _ = tm
  replace h : F14 (tm 0) (tm 1) g K := by rw [← hs]; exact h
  refine seq_i (a := nd14 [0]) (b := nd14 [1]) (k' := kj14_0  K) (by kernel_rfl) (fun st h => J14_0_ok  K st.tm st.g h) ?_
  try unfold F14 at h
  unfold kj14_0
  generalize @J14_0 = Q14_0 at h ⊢
  refine code2_sound ok_mono _ _ _ ?_
  refine kmp ?_ h
  generalize Ok Try.prog = C
  unfold en14
  as_aux_lemma => kernel_rfl

/-! parapet/parapetlaw15.full (19 slots) -/
noncomputable def en16 (K : LV → LHeap → Prop) : LEx → LSt → Prop := fun e st => match e with
  | .exit _ => False
  | _ => K (st.tm 4) st.g
theorem en16_eq (K : LV → LHeap → Prop) : en16 K = endL Try.prog Try.f16 K := by
  funext e st
  cases e <;> kernel_rfl
noncomputable def nd16 (p : List Nat) : Code := subC p (bodyC Try.prog 16)
noncomputable def J16_2 (x5 : LV) (g : LHeap)  (K : LV → LHeap → Prop) : Prop :=
  K x5 g
abbrev kj16_2  (K : LV → LHeap → Prop) : LSt → Prop := fun st => J16_2 (st.tm 5) st.g  K
theorem J16_2_ok  (K : LV → LHeap → Prop) (tm : Nat → LV) (g : LHeap) (h : J16_2 (tm 5) g  K) : codeL Try.prog (Ok Try.prog) (nd16 [1, 1, 1]) ⟨tm, g⟩ (en16 K) := by
  try unfold J16_2 at h
  refine code2_sound ok_mono _ _ _ ?_
  refine kmp ?_ h
  generalize Ok Try.prog = C
  unfold en16
  as_aux_lemma => kernel_rfl

noncomputable def L16_4 (x0 x1 : LV) (x5 x6 : LV) (g : LHeap) (N4 : LV × LV → LHeap → Prop) (K : LV → LHeap → Prop) : Prop :=
  vK (binL Try.prog .rem 3 true x1 (.int .i64 (2))) fun t9 =>
  vK (binL Try.prog .sub 3 true (.int .i64 (512)) t9) fun t10 =>
  vK (binL Try.prog .lss 3 false x6 t10) fun t11 =>
  ifB t11 (
  oK (buildSliceL Try.prog 33 1 [(0, x0)] g) fun t16 g =>
  oK (builtinL Try.prog .append [33, 33] [x5, t16] g) fun t17 g =>
  vK (binL Try.prog .add 3 true x6 (.int .i64 (1))) fun t13 =>
  N4 (t17, t13) g) (
  J16_2 x5 g  K)
theorem L16_4_ok (R4 : LV × LV → LV × LV → LHeap → Prop) (K : LV → LHeap → Prop) (tm : Nat → LV) (g : LHeap) (h : L16_4 (tm 0) (tm 1) (tm 5) (tm 6) g (fun s g => R4 ((tm 0), (tm 1)) s g) K) : codeL Try.prog (Ok Try.prog) (nd16 [1, 1, 0, 1, 0, 0]) ⟨tm, g⟩ (roundK (fun tm : Nat → LV => (tm 0, tm 1)) (fun tm : Nat → LV => (tm 5, tm 6)) R4 (exitL 0 (thenL (kj16_2  K) (en16 K)))) := by
  try unfold L16_4 at h
  unfold kj16_2
  generalize @J16_2 = Q16_2 at h ⊢
  refine code2_sound ok_mono _ _ _ ?_
  refine kmp ?_ h
  generalize Ok Try.prog = C
  unfold en16
  as_aux_lemma => kernel_rfl

noncomputable def J16_3 (x0 x1 x5 x6 : LV) (g : LHeap)  (K : LV → LHeap → Prop) : Prop :=
  loopP (fun s g N => L16_4 x0 x1 s.1 s.2 g N  K) (x5, x6) g
abbrev kj16_3  (K : LV → LHeap → Prop) : LSt → Prop := fun st => J16_3 (st.tm 0) (st.tm 1) (st.tm 5) (st.tm 6) st.g  K
theorem J16_3_ok  (K : LV → LHeap → Prop) (tm : Nat → LV) (g : LHeap) (h : J16_3 (tm 0) (tm 1) (tm 5) (tm 6) g  K) : codeL Try.prog (Ok Try.prog) (nd16 [1, 1, 0, 1]) ⟨tm, g⟩ (thenL (kj16_2  K) (en16 K)) := by
  refine block_i (b := nd16 [1, 1, 0, 1, 0]) (i := 0) (by kernel_rfl) ?_
  exact loop_glue (b := nd16 [1, 1, 0, 1, 0, 0]) (by kernel_rfl) (fun tm : Nat → LV => (tm 0, tm 1)) (fun tm : Nat → LV => (tm 5, tm 6)) (fun a s g N => L16_4 a.1 a.2 s.1 s.2 g N  K) (fun tm g R h => L16_4_ok R  K tm g h) tm g h

noncomputable def J16_1 (x0 x1 x5 : LV) (g : LHeap)  (K : LV → LHeap → Prop) : Prop :=
  J16_3 x0 x1 x5 (.int .i64 (0)) g  K
abbrev kj16_1  (K : LV → LHeap → Prop) : LSt → Prop := fun st => J16_1 (st.tm 0) (st.tm 1) (st.tm 5) st.g  K
theorem J16_1_ok  (K : LV → LHeap → Prop) (tm : Nat → LV) (g : LHeap) (h : J16_1 (tm 0) (tm 1) (tm 5) g  K) : codeL Try.prog (Ok Try.prog) (nd16 [1, 1]) ⟨tm, g⟩ (en16 K) := by
  refine seq_i (a := nd16 [1, 1, 0]) (b := nd16 [1, 1, 1]) (k' := kj16_2  K) (by kernel_rfl) (fun st h => J16_2_ok  K st.tm st.g h) ?_
  refine seq_i (a := nd16 [1, 1, 0, 0]) (b := nd16 [1, 1, 0, 1]) (k' := kj16_3  K) (by kernel_rfl) (fun st h => J16_3_ok  K st.tm st.g h) ?_
  try unfold J16_1 at h
  unfold kj16_3
  generalize @J16_3 = Q16_3 at h ⊢
  unfold kj16_2
  generalize @J16_2 = Q16_2 at h ⊢
  refine code2_sound ok_mono _ _ _ ?_
  refine kmp ?_ h
  generalize Ok Try.prog = C
  unfold en16
  as_aux_lemma => kernel_rfl

noncomputable def J16_0 (x0 x1 : LV) (g : LHeap)  (K : LV → LHeap → Prop) : Prop :=
  J16_1 x0 x1 .nils g  K
abbrev kj16_0  (K : LV → LHeap → Prop) : LSt → Prop := fun st => J16_0 (st.tm 0) (st.tm 1) st.g  K
theorem J16_0_ok  (K : LV → LHeap → Prop) (tm : Nat → LV) (g : LHeap) (h : J16_0 (tm 0) (tm 1) g  K) : codeL Try.prog (Ok Try.prog) (nd16 [1]) ⟨tm, g⟩ (en16 K) := by
  refine seq_i (a := nd16 [1, 0]) (b := nd16 [1, 1]) (k' := kj16_1  K) (by kernel_rfl) (fun st h => J16_1_ok  K st.tm st.g h) ?_
  try unfold J16_0 at h
  unfold kj16_1
  generalize @J16_1 = Q16_1 at h ⊢
  refine code2_sound ok_mono _ _ _ ?_
  refine kmp ?_ h
  generalize Ok Try.prog = C
  unfold en16
  as_aux_lemma => kernel_rfl

noncomputable def F16 (x0 x1 : LV) (g : LHeap) (K : LV → LHeap → Prop) : Prop :=
  J16_0 x0 x1 g  K
theorem ok16 {x0 x1 : LV} {g : LHeap} {K : LV → LHeap → Prop} (h : g.Wf → (∀ v ∈ ([x0, x1] : List LV), ∀ b ∈ v.objs, b < g.next) → F16 x0 x1 g K) : Ok Try.prog 16 [x0, x1] g K := by
  refine ok_fw Try.mixed Try.func16 (by kernel_rfl) (by kernel_rfl) (c := nd16 []) (by kernel_rfl) fun wf lt => ?_
  rw [← en16_eq]
  replace h := h wf lt
  generalize hs : startL _ = tm
  replace h : F16 (tm 0) (tm 1) g K := by rw [← hs]; exact h
  refine seq_i (a := nd16 [0]) (b := nd16 [1]) (k' := kj16_0  K) (by kernel_rfl) (fun st h => J16_0_ok  K st.tm st.g h) ?_
  try unfold F16 at h
  unfold kj16_0
  generalize @J16_0 = Q16_0 at h ⊢
  refine code2_sound ok_mono _ _ _ ?_
  refine kmp ?_ h
  generalize Ok Try.prog = C
  unfold en16
  as_aux_lemma => kernel_rfl

end Go.Proofs.Ytoajcekgoalhjaa
