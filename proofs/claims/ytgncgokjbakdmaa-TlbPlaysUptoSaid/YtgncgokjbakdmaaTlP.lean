/-
  Functions of the program, as texts of named values.
-/
import Derived.Test.YtgncgokjbakdmaaWa0
set_option linter.all false
namespace Go.Proofs.Ytgncgokjbakdmaa
open Go.ChangeShapes Go.WideShapes Go.ChangeAt Go.RowKit Go.Lm
set_option maxRecDepth 1000000
set_option linter.unusedVariables false
/-! parapet/tlb.New (46 slots) -/
noncomputable def en18 (K : LV → LHeap → Prop) : LEx → LSt → Prop := fun e st => match e with
  | .exit _ => False
  | _ => K (.tuple [(st.tm 4), (st.tm 5)]) st.g
theorem en18_eq (K : LV → LHeap → Prop) : en18 K = endL Try.prog Try.f18 K := by
  funext e st
  cases e <;> kernel_rfl
noncomputable def nd18 (p : List Nat) : Code := subC p (bodyC Try.prog 18)
noncomputable def J18_3 (x6 : LV) (g : LHeap)  (K : LV → LHeap → Prop) : Prop :=
  K (.tuple [x6, (.int .i64 (0))]) g
abbrev kj18_3  (K : LV → LHeap → Prop) : LSt → Prop := fun st => J18_3 (st.tm 6) st.g  K
theorem J18_3_ok  (K : LV → LHeap → Prop) (tm : Nat → LV) (g : LHeap) (h : J18_3 (tm 6) g  K) : codeL Try.prog (Ok Try.prog) (nd18 [1, 1, 1, 1]) ⟨tm, g⟩ (en18 K) := by
  try unfold J18_3 at h
  refine code2_sound ok_mono _ _ _ ?_
  refine kmp ?_ h
  generalize Ok Try.prog = C
  unfold en18
  as_aux_lemma => kernel_rfl

noncomputable def L18_5 (x6 x32 : LV) (x33 : LV) (g : LHeap) (N5 : LV → LHeap → Prop) (K : LV → LHeap → Prop) : Prop :=
  vK (binL Try.prog .lss 3 false x33 x32) fun t34 =>
  ifB t34 (
  vK (nilCheckL x6) fun t37 =>
  vK (fieldAddrL 1 t37) fun t38 =>
  vK (loadV none t38 g) fun t39 =>
  mkK (.map g.next) (g.alloc (.map [] 0 .ex)) fun t41 g =>
  vK (ixAddrL none 2 t39 x33) fun t42 =>
  vK (fieldAddrL 0 t42) fun t43 =>
  gK (storeV 1 t43 t41 g) fun g =>
  vK (binL Try.prog .add 3 true x33 (.int .i64 (1))) fun t44 =>
  N5 t44 g) (
  J18_3 x6 g  K)
theorem L18_5_ok (R5 : LV × LV → LV → LHeap → Prop) (K : LV → LHeap → Prop) (tm : Nat → LV) (g : LHeap) (h : L18_5 (tm 6) (tm 32) (tm 33) g (fun s g => R5 ((tm 6), (tm 32)) s g) K) : codeL Try.prog (Ok Try.prog) (nd18 [1, 1, 1, 0, 1, 0, 0]) ⟨tm, g⟩ (roundK (fun tm : Nat → LV => (tm 6, tm 32)) (fun tm : Nat → LV => tm 33) R5 (exitL 0 (thenL (kj18_3  K) (en18 K)))) := by
  try unfold L18_5 at h
  unfold kj18_3
  generalize @J18_3 = Q18_3 at h ⊢
  refine code2_sound ok_mono _ _ _ ?_
  refine kmp ?_ h
  generalize Ok Try.prog = C
  unfold en18
  as_aux_lemma => kernel_rfl

noncomputable def J18_4 (x6 x32 x33 : LV) (g : LHeap)  (K : LV → LHeap → Prop) : Prop :=
  loopP (fun s g N => L18_5 x6 x32 s g N  K) x33 g
abbrev kj18_4  (K : LV → LHeap → Prop) : LSt → Prop := fun st => J18_4 (st.tm 6) (st.tm 32) (st.tm 33) st.g  K
theorem J18_4_ok  (K : LV → LHeap → Prop) (tm : Nat → LV) (g : LHeap) (h : J18_4 (tm 6) (tm 32) (tm 33) g  K) : codeL Try.prog (Ok Try.prog) (nd18 [1, 1, 1, 0, 1]) ⟨tm, g⟩ (thenL (kj18_3  K) (en18 K)) := by
  refine block_i (b := nd18 [1, 1, 1, 0, 1, 0]) (i := 0) (by kernel_rfl) ?_
  exact loop_glue (b := nd18 [1, 1, 1, 0, 1, 0, 0]) (by kernel_rfl) (fun tm : Nat → LV => (tm 6, tm 32)) (fun tm : Nat → LV => tm 33) (fun a s g N => L18_5 a.1 a.2 s g N  K) (fun tm g R h => L18_5_ok R  K tm g h) tm g h

noncomputable def J18_2 (x6 : LV) (g : LHeap)  (K : LV → LHeap → Prop) : Prop :=
  vK (nilCheckL x6) fun t29 =>
  vK (fieldAddrL 1 t29) fun t30 =>
  vK (loadV none t30 g) fun t31 =>
  oK (builtinL Try.prog .len [90] [t31] g) fun t32 g =>
  J18_4 x6 t32 (.int .i64 (0)) g  K
abbrev kj18_2  (K : LV → LHeap → Prop) : LSt → Prop := fun st => J18_2 (st.tm 6) st.g  K
theorem J18_2_ok  (K : LV → LHeap → Prop) (tm : Nat → LV) (g : LHeap) (h : J18_2 (tm 6) g  K) : codeL Try.prog (Ok Try.prog) (nd18 [1, 1, 1]) ⟨tm, g⟩ (en18 K) := by
  refine seq_i (a := nd18 [1, 1, 1, 0]) (b := nd18 [1, 1, 1, 1]) (k' := kj18_3  K) (by kernel_rfl) (fun st h => J18_3_ok  K st.tm st.g h) ?_
  refine seq_i (a := nd18 [1, 1, 1, 0, 0]) (b := nd18 [1, 1, 1, 0, 1]) (k' := kj18_4  K) (by kernel_rfl) (fun st h => J18_4_ok  K st.tm st.g h) ?_
  try unfold J18_2 at h
  unfold kj18_4
  generalize @J18_4 = Q18_4 at h ⊢
  unfold kj18_3
  generalize @J18_3 = Q18_3 at h ⊢
  refine code2_sound ok_mono _ _ _ ?_
  refine kmp ?_ h
  generalize Ok Try.prog = C
  unfold en18
  as_aux_lemma => kernel_rfl

noncomputable def J18_1 (x0 x1 : LV) (g : LHeap)  (K : LV → LHeap → Prop) : Prop :=
  oK (makeSliceL Try.prog 90 x0 x0 g) fun t24 g =>
  mkK (.map g.next) (g.alloc (.map [] 0 .ex)) fun t25 g =>
  vK (buildL Try.prog 93 [(0, x1), (1, t24), (3, t25)]) fun t26 =>
  oK (newL t26 g) fun t27 g =>
  J18_2 t27 g  K
abbrev kj18_1  (K : LV → LHeap → Prop) : LSt → Prop := fun st => J18_1 (st.tm 0) (st.tm 1) st.g  K
theorem J18_1_ok  (K : LV → LHeap → Prop) (tm : Nat → LV) (g : LHeap) (h : J18_1 (tm 0) (tm 1) g  K) : codeL Try.prog (Ok Try.prog) (nd18 [1, 1]) ⟨tm, g⟩ (en18 K) := by
  refine seq_i (a := nd18 [1, 1, 0]) (b := nd18 [1, 1, 1]) (k' := kj18_2  K) (by kernel_rfl) (fun st h => J18_2_ok  K st.tm st.g h) ?_
  try unfold J18_1 at h
  unfold kj18_2
  generalize @J18_2 = Q18_2 at h ⊢
  refine code2_sound ok_mono _ _ _ ?_
  refine kmp ?_ h
  generalize Ok Try.prog = C
  unfold en18
  as_aux_lemma => kernel_rfl

noncomputable def J18_0 (x0 x1 : LV) (g : LHeap)  (K : LV → LHeap → Prop) : Prop :=
  vK (binL Try.prog .lss 3 true x0 (.int .i64 (1))) fun t9 =>
  gd t9 false g (fun K => K x0 g) fun t11 g =>
  gd t9 false g (fun K => vK (binL Try.prog .gtr 3 true t11 (.int .i64 (8))) fun v => K v g) fun t12 g =>
  vK (pickL t9 (.bool true) t12) fun t13 =>
  gd t13 false g (fun K => K x1 g) fun t15 g =>
  gd t13 false g (fun K => vK (binL Try.prog .lss 3 true t15 (.int .i64 (1))) fun v => K v g) fun t16 g =>
  vK (pickL t13 (.bool true) t16) fun t17 =>
  gd t17 false g (fun K => K x1 g) fun t19 g =>
  gd t17 false g (fun K => vK (binL Try.prog .gtr 3 true t19 (.int .i64 (64))) fun v => K v g) fun t20 g =>
  vK (pickL t17 (.bool true) t20) fun t21 =>
  ifB t21 (
  K (.tuple [.nilp, (.int .i64 (1))]) g) (
  J18_1 x0 x1 g  K)
abbrev kj18_0  (K : LV → LHeap → Prop) : LSt → Prop := fun st => J18_0 (st.tm 0) (st.tm 1) st.g  K
theorem J18_0_ok  (K : LV → LHeap → Prop) (tm : Nat → LV) (g : LHeap) (h : J18_0 (tm 0) (tm 1) g  K) : codeL Try.prog (Ok Try.prog) (nd18 [1]) ⟨tm, g⟩ (en18 K) := by
  refine seq_i (a := nd18 [1, 0]) (b := nd18 [1, 1]) (k' := kj18_1  K) (by kernel_rfl) (fun st h => J18_1_ok  K st.tm st.g h) ?_
  try unfold J18_0 at h
  unfold kj18_1
  generalize @J18_1 = Q18_1 at h ⊢
  refine code2_sound ok_mono _ _ _ ?_
  refine kmp ?_ h
  generalize Ok Try.prog = C
  unfold en18
  as_aux_lemma => kernel_rfl

noncomputable def F18 (x0 x1 : LV) (g : LHeap) (K : LV → LHeap → Prop) : Prop :=
  J18_0 x0 x1 g  K
theorem ok18 {x0 x1 : LV} {g : LHeap} {K : LV → LHeap → Prop} (h : g.Wf → (∀ v ∈ ([x0, x1] : List LV), ∀ b ∈ v.objs, b < g.next) → F18 x0 x1 g K) : Ok Try.prog 18 [x0, x1] g K := by
  refine ok_fw Try.mixed Try.func18 (by kernel_rfl) (by kernel_rfl) (c := nd18 []) (by kernel_rfl) fun wf lt => ?_
  rw [← en18_eq]
  replace h := h wf lt
  generalize hs : startL _ = tm
  replace h : F18 (tm 0) (tm 1) g K := by rw [← hs]; exact h
  refine seq_i (a := nd18 [0]) (b := nd18 [1]) (k' := kj18_0  K) (by kernel_rfl) (fun st h => J18_0_ok  K st.tm st.g h) ?_
  try unfold F18 at h
  unfold kj18_0
  generalize @J18_0 = Q18_0 at h ⊢
  refine code2_sound ok_mono _ _ _ ?_
  refine kmp ?_ h
  generalize Ok Try.prog = C
  unfold en18
  as_aux_lemma => kernel_rfl

/-! (*parapet/tlb.Tlb).is (13 slots) -/
noncomputable def en44 (K : LV → LHeap → Prop) : LEx → LSt → Prop := fun e st => match e with
  | .exit _ => False
  | _ => K (st.tm 4) st.g
theorem en44_eq (K : LV → LHeap → Prop) : en44 K = endL Try.prog Try.f44 K := by
  funext e st
  cases e <;> kernel_rfl
noncomputable def nd44 (p : List Nat) : Code := subC p (bodyC Try.prog 44)
noncomputable def F44 (x0 x1 : LV) (g : LHeap) (K : LV → LHeap → Prop) : Prop :=
  vK (binL Try.prog .geq 3 true x1 (.int .i64 (0))) fun t6 =>
  gd t6 true g (fun K => K x1 g) fun t8 g =>
  gd t6 true g (fun K => K x0 g) fun t9 g =>
  gd t6 true g (fun K => Ok Try.prog 36 [t9] g K) fun t10 g =>
  gd t6 true g (fun K => vK (binL Try.prog .lss 3 false t8 t10) fun v => K v g) fun t11 g =>
  vK (pickL t6 t11 (.bool false)) fun t12 =>
  K t12 g
theorem ok44 {x0 x1 : LV} {g : LHeap} {K : LV → LHeap → Prop} (h : g.Wf → (∀ v ∈ ([x0, x1] : List LV), ∀ b ∈ v.objs, b < g.next) → F44 x0 x1 g K) : Ok Try.prog 44 [x0, x1] g K := by
  refine ok_fw Try.mixed Try.func44 (by kernel_rfl) (by kernel_rfl) (c := nd44 []) (by kernel_rfl) fun wf lt => ?_
  rw [← en44_eq]
  replace h := h wf lt
  generalize hs : startL _ = tm
  replace h : F44 (tm 0) (tm 1) g K := by rw [← hs]; exact h
  try unfold F44 at h
  refine code2_sound ok_mono _ _ _ ?_
  refine kmp ?_ h
  generalize Ok Try.prog = C
  unfold en44
  as_aux_lemma => kernel_rfl

/-! (*parapet/tlb.hart).forget (33 slots) -/
noncomputable def en47 (K : LV → LHeap → Prop) : LEx → LSt → Prop := fun e st => match e with
  | .exit _ => False
  | _ => K (st.tm 4) st.g
theorem en47_eq (K : LV → LHeap → Prop) : en47 K = endL Try.prog Try.f47 K := by
  funext e st
  cases e <;> kernel_rfl
noncomputable def nd47 (p : List Nat) : Code := subC p (bodyC Try.prog 47)
noncomputable def F47 (x0 x1 : LV) (g : LHeap) (K : LV → LHeap → Prop) : Prop :=
  oK (newL x1 g) fun t3 g =>
  vK (nilCheckL x0) fun t7 =>
  vK (fieldAddrL 1 t7) fun t8 =>
  vK (loadV none t8 g) fun t9 =>
  oK (builtinL Try.prog .len [50] [t9] g) fun t10 g =>
  vK (nilCheckL x0) fun t13 =>
  vK (fieldAddrL 1 t13) fun t14 =>
  vK (loadV none t14 g) fun t15 =>
  Ok Try.prog 71 [t15, (.func (.func 72) [] [t3])] g fun t17 g =>
  vK (nilCheckL x0) fun t18 =>
  vK (fieldAddrL 1 t18) fun t19 =>
  gK (storeV 1 t19 t17 g) fun g =>
  vK (nilCheckL x0) fun t21 =>
  vK (fieldAddrL 0 t21) fun t22 =>
  vK (loadV none t22 g) fun t23 =>
  Ok Try.prog 73 [t23, (.func (.func 74) [] [t3])] g fun t25 g =>
  vK (nilCheckL x0) fun t28 =>
  vK (fieldAddrL 1 t28) fun t29 =>
  vK (loadV none t29 g) fun t30 =>
  oK (builtinL Try.prog .len [50] [t30] g) fun t31 g =>
  vK (binL Try.prog .sub 3 false t10 t31) fun t32 =>
  K t32 g
theorem ok47 {x0 x1 : LV} {g : LHeap} {K : LV → LHeap → Prop} (h : g.Wf → (∀ v ∈ ([x0, x1] : List LV), ∀ b ∈ v.objs, b < g.next) → F47 x0 x1 g K) : Ok Try.prog 47 [x0, x1] g K := by
  refine ok_fw Try.mixed Try.func47 (by kernel_rfl) (by kernel_rfl) (c := nd47 []) (by kernel_rfl) fun wf lt => ?_
  rw [← en47_eq]
  replace h := h wf lt
  generalize hs : startL _ = tm
  replace h : F47 (tm 0) (tm 1) g K := by rw [← hs]; exact h
  try unfold F47 at h
  refine code2_sound ok_mono _ _ _ ?_
  refine kmp ?_ h
  generalize Ok Try.prog = C
  unfold en47
  as_aux_lemma => kernel_rfl

/-! (*parapet/tlb.hart).forget$1 (8 slots) -/
noncomputable def en72 (K : LV → LHeap → Prop) : LEx → LSt → Prop := fun e st => match e with
  | .exit _ => False
  | _ => K (st.tm 3) st.g
theorem en72_eq (K : LV → LHeap → Prop) : en72 K = endL Try.prog Try.f72 K := by
  funext e st
  cases e <;> kernel_rfl
noncomputable def nd72 (p : List Nat) : Code := subC p (bodyC Try.prog 72)
noncomputable def F72 (x0 x1 : LV) (g : LHeap) (K : LV → LHeap → Prop) : Prop :=
  oK (newL x0 g) fun t2 g =>
  vK (fieldAddrL 0 t2) fun t4 =>
  vK (loadV none t4 g) fun t5 =>
  vK (loadV none x1 g) fun t6 =>
  vK (binL Try.prog .eql 3 false t5 t6) fun t7 =>
  K t7 g
theorem ok72 {x0 x1 : LV} {g : LHeap} {K : LV → LHeap → Prop} (h : g.Wf → (∀ v ∈ ([x0, x1] : List LV), ∀ b ∈ v.objs, b < g.next) → F72 x0 x1 g K) : Ok Try.prog 72 [x0, x1] g K := by
  refine ok_fw Try.mixed Try.func72 (by kernel_rfl) (by kernel_rfl) (c := nd72 []) (by kernel_rfl) fun wf lt => ?_
  rw [← en72_eq]
  replace h := h wf lt
  generalize hs : startL _ = tm
  replace h : F72 (tm 0) (tm 1) g K := by rw [← hs]; exact h
  try unfold F72 at h
  refine code2_sound ok_mono _ _ _ ?_
  refine kmp ?_ h
  generalize Ok Try.prog = C
  unfold en72
  as_aux_lemma => kernel_rfl

/-! (*parapet/tlb.hart).forget$2 (10 slots) -/
noncomputable def en74 (K : LV → LHeap → Prop) : LEx → LSt → Prop := fun e st => match e with
  | .exit _ => False
  | _ => K (st.tm 5) st.g
theorem en74_eq (K : LV → LHeap → Prop) : en74 K = endL Try.prog Try.f74 K := by
  funext e st
  cases e <;> kernel_rfl
noncomputable def nd74 (p : List Nat) : Code := subC p (bodyC Try.prog 74)
noncomputable def F74 (x0 x1 x2 : LV) (g : LHeap) (K : LV → LHeap → Prop) : Prop :=
  oK (newL x0 g) fun t3 g =>
  vK (fieldAddrL 0 t3) fun t6 =>
  vK (loadV none t6 g) fun t7 =>
  vK (loadV none x2 g) fun t8 =>
  vK (binL Try.prog .eql 3 false t7 t8) fun t9 =>
  K t9 g
theorem ok74 {x0 x1 x2 : LV} {g : LHeap} {K : LV → LHeap → Prop} (h : g.Wf → (∀ v ∈ ([x0, x1, x2] : List LV), ∀ b ∈ v.objs, b < g.next) → F74 x0 x1 x2 g K) : Ok Try.prog 74 [x0, x1, x2] g K := by
  refine ok_fw Try.mixed Try.func74 (by kernel_rfl) (by kernel_rfl) (c := nd74 []) (by kernel_rfl) fun wf lt => ?_
  rw [← en74_eq]
  replace h := h wf lt
  generalize hs : startL _ = tm
  replace h : F74 (tm 0) (tm 1) (tm 2) g K := by rw [← hs]; exact h
  try unfold F74 at h
  refine code2_sound ok_mono _ _ _ ?_
  refine kmp ?_ h
  generalize Ok Try.prog = C
  unfold en74
  as_aux_lemma => kernel_rfl

/-! (*parapet/tlb.Tlb).Fill (79 slots) -/
noncomputable def en20 (K : LV → LHeap → Prop) : LEx → LSt → Prop := fun e st => match e with
  | .exit _ => False
  | _ => K (st.tm 8) st.g
theorem en20_eq (K : LV → LHeap → Prop) : en20 K = endL Try.prog Try.f20 K := by
  funext e st
  cases e <;> kernel_rfl
noncomputable def nd20 (p : List Nat) : Code := subC p (bodyC Try.prog 20)
noncomputable def J20_4 (x3 x6 x9 : LV) (g : LHeap)  (K : LV → LHeap → Prop) : Prop :=
  vK (nilCheckL x9) fun t74 =>
  vK (fieldAddrL 0 t74) fun t75 =>
  vK (loadV none t75 g) fun t76 =>
  vK (loadV (some 2) x6 g) fun t77 =>
  ((gK (mapSetL Try.prog 94 t76 t77 x3 g) fun g =>
  
  K (.int .i64 (0)) g) ∧ True)
abbrev kj20_4  (K : LV → LHeap → Prop) : LSt → Prop := fun st => J20_4 (st.tm 3) (st.tm 6) (st.tm 9) st.g  K
theorem J20_4_ok  (K : LV → LHeap → Prop) (tm : Nat → LV) (g : LHeap) (h : J20_4 (tm 3) (tm 6) (tm 9) g  K) : codeL Try.prog (Ok Try.prog) (nd20 [1, 1, 1, 1, 1]) ⟨tm, g⟩ (en20 K) := by
  try unfold J20_4 at h
  refine code2_sound ok_mono _ _ _ ?_
  refine kmp ?_ h
  generalize Ok Try.prog = C
  unfold en20
  as_aux_lemma => kernel_rfl

noncomputable def J20_7 (x3 x6 x9 : LV) (g : LHeap)  (K : LV → LHeap → Prop) : Prop :=
  vK (nilCheckL x9) fun t65 =>
  vK (fieldAddrL 1 t65) fun t66 =>
  vK (loadV none t66 g) fun t67 =>
  vK (loadV (some 2) x6 g) fun t68 =>
  ((oK (buildSliceL Try.prog 50 1 [(0, t68)] g) fun t69 g =>
  ((loadV none t66 g) = some t67 ∧ 
  ((oK (builtinL Try.prog .append [50, 50] [t67, t69] g) fun t70 g =>
  
  vK (nilCheckL x9) fun t71 =>
  vK (fieldAddrL 1 t71) fun t72 =>
  ((gK (storeV 1 t72 t70 g) fun g =>
  
  J20_4 x3 x6 x9 g  K) ∧ True)) ∧ True))) ∧ True)
abbrev kj20_7  (K : LV → LHeap → Prop) : LSt → Prop := fun st => J20_7 (st.tm 3) (st.tm 6) (st.tm 9) st.g  K
theorem J20_7_ok  (K : LV → LHeap → Prop) (tm : Nat → LV) (g : LHeap) (h : J20_7 (tm 3) (tm 6) (tm 9) g  K) : codeL Try.prog (Ok Try.prog) (nd20 [1, 1, 1, 1, 0, 1, 1, 0, 1]) ⟨tm, g⟩ (thenL (kj20_4  K) (en20 K)) := by
  try unfold J20_7 at h
  unfold kj20_4
  generalize @J20_4 = Q20_4 at h ⊢
  refine code2_sound ok_mono _ _ _ ?_
  refine kmp ?_ h
  generalize Ok Try.prog = C
  unfold en20
  as_aux_lemma => kernel_rfl

noncomputable def J20_6 (x0 x3 x6 x9 x34 : LV) (g : LHeap)  (K : LV → LHeap → Prop) : Prop :=
  ifB x34 (
  vK (nilCheckL x9) fun t36 =>
  vK (fieldAddrL 1 t36) fun t37 =>
  vK (loadV none t37 g) fun t38 =>
  vK (lenL Try.prog 50 t38 g) fun t39 =>
  vK (nilCheckL x0) fun t41 =>
  vK (fieldAddrL 0 t41) fun t42 =>
  vK (loadV none t42 g) fun t43 =>
  vK (binL Try.prog .geq 3 false t39 t43) fun t44 =>
  ifB t44 (
  vK (nilCheckL x9) fun t46 =>
  vK (fieldAddrL 0 t46) fun t47 =>
  vK (loadV none t47 g) fun t48 =>
  vK (nilCheckL x9) fun t50 =>
  vK (fieldAddrL 1 t50) fun t51 =>
  vK (loadV none t51 g) fun t52 =>
  vK (ixAddrL none 2 t52 (.int .i64 (0))) fun t53 =>
  vK (loadV (some 2) t53 g) fun t54 =>
  ((oK (builtinL Try.prog .delete [94, 41] [t48, t54] g) fun u g =>
  
  vK (nilCheckL x9) fun t57 =>
  vK (fieldAddrL 1 t57) fun t58 =>
  vK (loadV none t58 g) fun t59 =>
  Ok Try.prog 45 [t59, (.int .i64 (0)), (.int .i64 (1))] g fun t60 g =>
  vK (nilCheckL x9) fun t61 =>
  vK (fieldAddrL 1 t61) fun t62 =>
  gK (storeV 1 t62 t60 g) fun g =>
  J20_7 x3 x6 x9 g  K) ∧ True)) (
  J20_7 x3 x6 x9 g  K)) (
  J20_4 x3 x6 x9 g  K)
abbrev kj20_6  (K : LV → LHeap → Prop) : LSt → Prop := fun st => J20_6 (st.tm 0) (st.tm 3) (st.tm 6) (st.tm 9) (st.tm 34) st.g  K
theorem J20_6_ok  (K : LV → LHeap → Prop) (tm : Nat → LV) (g : LHeap) (h : J20_6 (tm 0) (tm 3) (tm 6) (tm 9) (tm 34) g  K) : codeL Try.prog (Ok Try.prog) (nd20 [1, 1, 1, 1, 0, 1, 1]) ⟨tm, g⟩ (thenL (kj20_4  K) (en20 K)) := by
  refine cond_i (a := nd20 [1, 1, 1, 1, 0, 1, 1, 0]) (b := nd20 [1, 1, 1, 1, 0, 1, 1, 1]) (by kernel_rfl) h (fun h => ?_) (fun h => ?_)
  refine seq_i (a := nd20 [1, 1, 1, 1, 0, 1, 1, 0, 0]) (b := nd20 [1, 1, 1, 1, 0, 1, 1, 0, 1]) (k' := kj20_7  K) (by kernel_rfl) (fun st h => J20_7_ok  K st.tm st.g h) ?_
  try unfold J20_6 at h
  unfold kj20_7
  generalize @J20_7 = Q20_7 at h ⊢
  unfold kj20_4
  generalize @J20_4 = Q20_4 at h ⊢
  refine code2_sound ok_mono _ _ _ ?_
  refine kmp ?_ h
  generalize Ok Try.prog = C
  unfold en20
  as_aux_lemma => kernel_rfl
  try unfold J20_6 at h
  unfold kj20_4
  generalize @J20_4 = Q20_4 at h ⊢
  refine code2_sound ok_mono _ _ _ ?_
  refine kmp ?_ h
  generalize Ok Try.prog = C
  unfold en20
  as_aux_lemma => kernel_rfl

noncomputable def J20_5 (x0 x3 x6 x9 x11 : LV) (g : LHeap)  (K : LV → LHeap → Prop) : Prop :=
  vK (unL .not x11) fun t34 =>
  J20_6 x0 x3 x6 x9 t34 g  K
abbrev kj20_5  (K : LV → LHeap → Prop) : LSt → Prop := fun st => J20_5 (st.tm 0) (st.tm 3) (st.tm 6) (st.tm 9) (st.tm 11) st.g  K
theorem J20_5_ok  (K : LV → LHeap → Prop) (tm : Nat → LV) (g : LHeap) (h : J20_5 (tm 0) (tm 3) (tm 6) (tm 9) (tm 11) g  K) : codeL Try.prog (Ok Try.prog) (nd20 [1, 1, 1, 1, 0, 1]) ⟨tm, g⟩ (thenL (kj20_4  K) (en20 K)) := by
  refine seq_i (a := nd20 [1, 1, 1, 1, 0, 1, 0]) (b := nd20 [1, 1, 1, 1, 0, 1, 1]) (k' := kj20_6  K) (by kernel_rfl) (fun st h => J20_6_ok  K st.tm st.g h) ?_
  try unfold J20_5 at h
  unfold kj20_6
  generalize @J20_6 = Q20_6 at h ⊢
  unfold kj20_4
  generalize @J20_4 = Q20_4 at h ⊢
  refine code2_sound ok_mono _ _ _ ?_
  refine kmp ?_ h
  generalize Ok Try.prog = C
  unfold en20
  as_aux_lemma => kernel_rfl

noncomputable def J20_3 (x0 x3 x6 x9 : LV) (g : LHeap)  (K : LV → LHeap → Prop) : Prop :=
  vK (nilCheckL x9) fun t26 =>
  vK (fieldAddrL 0 t26) fun t27 =>
  vK (loadV none t27 g) fun t28 =>
  vK (loadV (some 2) x6 g) fun t29 =>
  vK (lookupL Try.prog 94 t28 t29 true g) fun t30 =>
  vK (extractL t30 0) fun t31 =>
  vK (extractL t30 1) fun t32 =>
  J20_5 x0 x3 x6 x9 t32 g  K
abbrev kj20_3  (K : LV → LHeap → Prop) : LSt → Prop := fun st => J20_3 (st.tm 0) (st.tm 3) (st.tm 6) (st.tm 9) st.g  K
theorem J20_3_ok  (K : LV → LHeap → Prop) (tm : Nat → LV) (g : LHeap) (h : J20_3 (tm 0) (tm 3) (tm 6) (tm 9) g  K) : codeL Try.prog (Ok Try.prog) (nd20 [1, 1, 1, 1]) ⟨tm, g⟩ (en20 K) := by
  refine seq_i (a := nd20 [1, 1, 1, 1, 0]) (b := nd20 [1, 1, 1, 1, 1]) (k' := kj20_4  K) (by kernel_rfl) (fun st h => J20_4_ok  K st.tm st.g h) ?_
  refine seq_i (a := nd20 [1, 1, 1, 1, 0, 0]) (b := nd20 [1, 1, 1, 1, 0, 1]) (k' := kj20_5  K) (by kernel_rfl) (fun st h => J20_5_ok  K st.tm st.g h) ?_
  try unfold J20_3 at h
  unfold kj20_5
  generalize @J20_5 = Q20_5 at h ⊢
  unfold kj20_4
  generalize @J20_4 = Q20_4 at h ⊢
  refine code2_sound ok_mono _ _ _ ?_
  refine kmp ?_ h
  generalize Ok Try.prog = C
  unfold en20
  as_aux_lemma => kernel_rfl

noncomputable def J20_2 (x0 x1 x3 x6 : LV) (g : LHeap)  (K : LV → LHeap → Prop) : Prop :=
  vK (nilCheckL x0) fun t19 =>
  vK (fieldAddrL 1 t19) fun t20 =>
  vK (loadV none t20 g) fun t21 =>
  vK (ixAddrL none 2 t21 x1) fun t23 =>
  J20_3 x0 x3 x6 t23 g  K
abbrev kj20_2  (K : LV → LHeap → Prop) : LSt → Prop := fun st => J20_2 (st.tm 0) (st.tm 1) (st.tm 3) (st.tm 6) st.g  K
theorem J20_2_ok  (K : LV → LHeap → Prop) (tm : Nat → LV) (g : LHeap) (h : J20_2 (tm 0) (tm 1) (tm 3) (tm 6) g  K) : codeL Try.prog (Ok Try.prog) (nd20 [1, 1, 1]) ⟨tm, g⟩ (en20 K) := by
  refine seq_i (a := nd20 [1, 1, 1, 0]) (b := nd20 [1, 1, 1, 1]) (k' := kj20_3  K) (by kernel_rfl) (fun st h => J20_3_ok  K st.tm st.g h) ?_
  try unfold J20_2 at h
  unfold kj20_3
  generalize @J20_3 = Q20_3 at h ⊢
  refine code2_sound ok_mono _ _ _ ?_
  refine kmp ?_ h
  generalize Ok Try.prog = C
  unfold en20
  as_aux_lemma => kernel_rfl

noncomputable def J20_1 (x0 x1 x3 x6 : LV) (g : LHeap)  (K : LV → LHeap → Prop) : Prop :=
  Ok Try.prog 44 [x0, x1] g fun t16 g =>
  vK (unL .not t16) fun t17 =>
  ifB t17 (
  K (.int .i64 (1)) g) (
  J20_2 x0 x1 x3 x6 g  K)
abbrev kj20_1  (K : LV → LHeap → Prop) : LSt → Prop := fun st => J20_1 (st.tm 0) (st.tm 1) (st.tm 3) (st.tm 6) st.g  K
theorem J20_1_ok  (K : LV → LHeap → Prop) (tm : Nat → LV) (g : LHeap) (h : J20_1 (tm 0) (tm 1) (tm 3) (tm 6) g  K) : codeL Try.prog (Ok Try.prog) (nd20 [1, 1]) ⟨tm, g⟩ (en20 K) := by
  refine seq_i (a := nd20 [1, 1, 0]) (b := nd20 [1, 1, 1]) (k' := kj20_2  K) (by kernel_rfl) (fun st h => J20_2_ok  K st.tm st.g h) ?_
  try unfold J20_1 at h
  unfold kj20_2
  generalize @J20_2 = Q20_2 at h ⊢
  refine code2_sound ok_mono _ _ _ ?_
  refine kmp ?_ h
  generalize Ok Try.prog = C
  unfold en20
  as_aux_lemma => kernel_rfl

noncomputable def J20_0 (x0 x1 x3 x6 : LV) (g : LHeap)  (K : LV → LHeap → Prop) : Prop :=
  vK (binL Try.prog .eql 36 true x0 .nilp) fun t13 =>
  ifB t13 (
  K (.int .i64 (6)) g) (
  J20_1 x0 x1 x3 x6 g  K)
abbrev kj20_0  (K : LV → LHeap → Prop) : LSt → Prop := fun st => J20_0 (st.tm 0) (st.tm 1) (st.tm 3) (st.tm 6) st.g  K
theorem J20_0_ok  (K : LV → LHeap → Prop) (tm : Nat → LV) (g : LHeap) (h : J20_0 (tm 0) (tm 1) (tm 3) (tm 6) g  K) : codeL Try.prog (Ok Try.prog) (nd20 [1]) ⟨tm, g⟩ (en20 K) := by
  refine seq_i (a := nd20 [1, 0]) (b := nd20 [1, 1]) (k' := kj20_1  K) (by kernel_rfl) (fun st h => J20_1_ok  K st.tm st.g h) ?_
  try unfold J20_0 at h
  unfold kj20_1
  generalize @J20_1 = Q20_1 at h ⊢
  refine code2_sound ok_mono _ _ _ ?_
  refine kmp ?_ h
  generalize Ok Try.prog = C
  unfold en20
  as_aux_lemma => kernel_rfl

noncomputable def F20 (x0 x1 x2 x3 : LV) (g : LHeap) (K : LV → LHeap → Prop) : Prop :=
  oK (newL x2 g) fun t6 g =>
  J20_0 x0 x1 x3 t6 g  K
theorem ok20 {x0 x1 x2 x3 : LV} {g : LHeap} {K : LV → LHeap → Prop} (h : g.Wf → (∀ v ∈ ([x0, x1, x2, x3] : List LV), ∀ b ∈ v.objs, b < g.next) → F20 x0 x1 x2 x3 g K) : Ok Try.prog 20 [x0, x1, x2, x3] g K := by
  refine ok_fw Try.mixed Try.func20 (by kernel_rfl) (by kernel_rfl) (c := nd20 []) (by kernel_rfl) fun wf lt => ?_
  rw [← en20_eq]
  replace h := h wf lt
  generalize hs : startL _ = tm
  replace h : F20 (tm 0) (tm 1) (tm 2) (tm 3) g K := by rw [← hs]; exact h
  refine seq_i (a := nd20 [0]) (b := nd20 [1]) (k' := kj20_0  K) (by kernel_rfl) (fun st h => J20_0_ok  K st.tm st.g h) ?_
  try unfold F20 at h
  unfold kj20_0
  generalize @J20_0 = Q20_0 at h ⊢
  refine code2_sound ok_mono _ _ _ ?_
  refine kmp ?_ h
  generalize Ok Try.prog = C
  unfold en20
  as_aux_lemma => kernel_rfl

/-! (*parapet/tlb.Tlb).Start (63 slots) -/
noncomputable def en21 (K : LV → LHeap → Prop) : LEx → LSt → Prop := fun e st => match e with
  | .exit _ => False
  | _ => K (.tuple [(st.tm 6), (st.tm 7)]) st.g
theorem en21_eq (K : LV → LHeap → Prop) : en21 K = endL Try.prog Try.f21 K := by
  funext e st
  cases e <;> kernel_rfl
noncomputable def nd21 (p : List Nat) : Code := subC p (bodyC Try.prog 21)
noncomputable def J21_6 (x0 : LV) (g : LHeap)  (K : LV → LHeap → Prop) : Prop :=
  vK (nilCheckL x0) fun t60 =>
  vK (fieldAddrL 2 t60) fun t61 =>
  vK (loadV none t61 g) fun t62 =>
  K (.tuple [t62, (.int .i64 (0))]) g
abbrev kj21_6  (K : LV → LHeap → Prop) : LSt → Prop := fun st => J21_6 (st.tm 0) st.g  K
theorem J21_6_ok  (K : LV → LHeap → Prop) (tm : Nat → LV) (g : LHeap) (h : J21_6 (tm 0) g  K) : codeL Try.prog (Ok Try.prog) (nd21 [1, 1, 1, 1, 1, 1, 1]) ⟨tm, g⟩ (en21 K) := by
  try unfold J21_6 at h
  refine code2_sound ok_mono _ _ _ ?_
  refine kmp ?_ h
  generalize Ok Try.prog = C
  unfold en21
  as_aux_lemma => kernel_rfl

noncomputable def J21_5 (x0 x2 x8 : LV) (g : LHeap)  (K : LV → LHeap → Prop) : Prop :=
  oK (builtinL Try.prog .len [24] [x2] g) fun t48 g =>
  vK (binL Try.prog .gtr 3 true t48 (.int .i64 (0))) fun t49 =>
  ifB t49 (
  vK (nilCheckL x0) fun t51 =>
  vK (fieldAddrL 3 t51) fun t52 =>
  vK (loadV none t52 g) fun t53 =>
  vK (nilCheckL x0) fun t55 =>
  vK (fieldAddrL 2 t55) fun t56 =>
  vK (loadV none t56 g) fun t57 =>
  vK (loadV (some 9) x8 g) fun t58 =>
  ((gK (mapSetL Try.prog 91 t53 t57 t58 g) fun g =>
  
  J21_6 x0 g  K) ∧ True)) (
  J21_6 x0 g  K)
abbrev kj21_5  (K : LV → LHeap → Prop) : LSt → Prop := fun st => J21_5 (st.tm 0) (st.tm 2) (st.tm 8) st.g  K
theorem J21_5_ok  (K : LV → LHeap → Prop) (tm : Nat → LV) (g : LHeap) (h : J21_5 (tm 0) (tm 2) (tm 8) g  K) : codeL Try.prog (Ok Try.prog) (nd21 [1, 1, 1, 1, 1, 1]) ⟨tm, g⟩ (en21 K) := by
  refine seq_i (a := nd21 [1, 1, 1, 1, 1, 1, 0]) (b := nd21 [1, 1, 1, 1, 1, 1, 1]) (k' := kj21_6  K) (by kernel_rfl) (fun st h => J21_6_ok  K st.tm st.g h) ?_
  try unfold J21_5 at h
  unfold kj21_6
  generalize @J21_6 = Q21_6 at h ⊢
  refine code2_sound ok_mono _ _ _ ?_
  refine kmp ?_ h
  generalize Ok Try.prog = C
  unfold en21
  as_aux_lemma => kernel_rfl

noncomputable def J21_4 (x0 x2 x8 : LV) (g : LHeap)  (K : LV → LHeap → Prop) : Prop :=
  vK (nilCheckL x0) fun t41 =>
  vK (fieldAddrL 2 t41) fun t42 =>
  vK (loadV none t42 g) fun t43 =>
  vK (binL Try.prog .add 3 true t43 (.int .i64 (1))) fun t44 =>
  vK (nilCheckL x0) fun t45 =>
  vK (fieldAddrL 2 t45) fun t46 =>
  gK (storeV 1 t46 t44 g) fun g =>
  J21_5 x0 x2 x8 g  K
abbrev kj21_4  (K : LV → LHeap → Prop) : LSt → Prop := fun st => J21_4 (st.tm 0) (st.tm 2) (st.tm 8) st.g  K
theorem J21_4_ok  (K : LV → LHeap → Prop) (tm : Nat → LV) (g : LHeap) (h : J21_4 (tm 0) (tm 2) (tm 8) g  K) : codeL Try.prog (Ok Try.prog) (nd21 [1, 1, 1, 1, 1]) ⟨tm, g⟩ (en21 K) := by
  refine seq_i (a := nd21 [1, 1, 1, 1, 1, 0]) (b := nd21 [1, 1, 1, 1, 1, 1]) (k' := kj21_5  K) (by kernel_rfl) (fun st h => J21_5_ok  K st.tm st.g h) ?_
  try unfold J21_4 at h
  unfold kj21_5
  generalize @J21_5 = Q21_5 at h ⊢
  refine code2_sound ok_mono _ _ _ ?_
  refine kmp ?_ h
  generalize Ok Try.prog = C
  unfold en21
  as_aux_lemma => kernel_rfl

noncomputable def J21_3 (x0 x2 x8 : LV) (g : LHeap)  (K : LV → LHeap → Prop) : Prop :=
  vK (nilCheckL x0) fun t36 =>
  vK (fieldAddrL 2 t36) fun t37 =>
  vK (loadV none t37 g) fun t38 =>
  vK (binL Try.prog .geq 3 true t38 (.int .i64 (2147483647))) fun t39 =>
  ifB t39 (
  K (.tuple [(.int .i64 (0)), (.int .i64 (2))]) g) (
  J21_4 x0 x2 x8 g  K)
abbrev kj21_3  (K : LV → LHeap → Prop) : LSt → Prop := fun st => J21_3 (st.tm 0) (st.tm 2) (st.tm 8) st.g  K
theorem J21_3_ok  (K : LV → LHeap → Prop) (tm : Nat → LV) (g : LHeap) (h : J21_3 (tm 0) (tm 2) (tm 8) g  K) : codeL Try.prog (Ok Try.prog) (nd21 [1, 1, 1, 1]) ⟨tm, g⟩ (en21 K) := by
  refine seq_i (a := nd21 [1, 1, 1, 1, 0]) (b := nd21 [1, 1, 1, 1, 1]) (k' := kj21_4  K) (by kernel_rfl) (fun st h => J21_4_ok  K st.tm st.g h) ?_
  try unfold J21_3 at h
  unfold kj21_4
  generalize @J21_4 = Q21_4 at h ⊢
  refine code2_sound ok_mono _ _ _ ?_
  refine kmp ?_ h
  generalize Ok Try.prog = C
  unfold en21
  as_aux_lemma => kernel_rfl

noncomputable def L21_8 (x0 x2 x8 x15 x16 : LV) (x17 : LV) (g : LHeap) (N8 : LV → LHeap → Prop) (K : LV → LHeap → Prop) : Prop :=
  vK (binL Try.prog .lss 3 false x17 x16) fun t18 =>
  ifB t18 (
  vK (ixAddrL none 1 x15 x17) fun t19 =>
  vK (loadV none t19 g) fun t20 =>
  Ok Try.prog 44 [x0, t20] g fun t23 g =>
  vK (unL .not t23) fun t24 =>
  gd t24 false g (fun K => K t20 g) fun t26 g =>
  gd t24 false g (fun K => vK (fieldAddrL 1 x8) fun v => K v g) fun t27 g =>
  gd t24 false g (fun K => vK (ixAddrL (some 8) 1 t27 t26) fun v => K v g) fun t28 g =>
  gd t24 false g (fun K => vK (loadV none t28 g) fun v => K v g) fun t29 g =>
  vK (pickL t24 (.bool true) t29) fun t30 =>
  ifB t30 (
  K (.tuple [(.int .i64 (0)), (.int .i64 (1))]) g) (
  vK (fieldAddrL 1 x8) fun t32 =>
  vK (ixAddrL (some 8) 1 t32 t20) fun t33 =>
  gK (storeV 1 t33 (.bool true) g) fun g =>
  vK (binL Try.prog .add 3 true x17 (.int .i64 (1))) fun t34 =>
  N8 t34 g)) (
  J21_3 x0 x2 x8 g  K)
theorem L21_8_ok (R8 : LV × LV × LV × LV × LV → LV → LHeap → Prop) (K : LV → LHeap → Prop) (tm : Nat → LV) (g : LHeap) (h : L21_8 (tm 0) (tm 2) (tm 8) (tm 15) (tm 16) (tm 17) g (fun s g => R8 ((tm 0), (tm 2), (tm 8), (tm 15), (tm 16)) s g) K) : codeL Try.prog (Ok Try.prog) (nd21 [1, 1, 1, 0, 1, 0, 0]) ⟨tm, g⟩ (roundK (fun tm : Nat → LV => (tm 0, tm 2, tm 8, tm 15, tm 16)) (fun tm : Nat → LV => tm 17) R8 (exitL 0 (thenL (kj21_3  K) (en21 K)))) := by
  try unfold L21_8 at h
  unfold kj21_3
  generalize @J21_3 = Q21_3 at h ⊢
  refine code2_sound ok_mono _ _ _ ?_
  refine kmp ?_ h
  generalize Ok Try.prog = C
  unfold en21
  as_aux_lemma => kernel_rfl

noncomputable def J21_7 (x0 x2 x8 x15 x16 x17 : LV) (g : LHeap)  (K : LV → LHeap → Prop) : Prop :=
  loopP (fun s g N => L21_8 x0 x2 x8 x15 x16 s g N  K) x17 g
abbrev kj21_7  (K : LV → LHeap → Prop) : LSt → Prop := fun st => J21_7 (st.tm 0) (st.tm 2) (st.tm 8) (st.tm 15) (st.tm 16) (st.tm 17) st.g  K
theorem J21_7_ok  (K : LV → LHeap → Prop) (tm : Nat → LV) (g : LHeap) (h : J21_7 (tm 0) (tm 2) (tm 8) (tm 15) (tm 16) (tm 17) g  K) : codeL Try.prog (Ok Try.prog) (nd21 [1, 1, 1, 0, 1]) ⟨tm, g⟩ (thenL (kj21_3  K) (en21 K)) := by
  refine block_i (b := nd21 [1, 1, 1, 0, 1, 0]) (i := 0) (by kernel_rfl) ?_
  exact loop_glue (b := nd21 [1, 1, 1, 0, 1, 0, 0]) (by kernel_rfl) (fun tm : Nat → LV => (tm 0, tm 2, tm 8, tm 15, tm 16)) (fun tm : Nat → LV => tm 17) (fun a s g N => L21_8 a.1 a.2.1 a.2.2.1 a.2.2.2.1 a.2.2.2.2 s g N  K) (fun tm g R h => L21_8_ok R  K tm g h) tm g h

noncomputable def J21_2 (x0 x2 x8 : LV) (g : LHeap)  (K : LV → LHeap → Prop) : Prop :=
  oK (builtinL Try.prog .len [24] [x2] g) fun t16 g =>
  J21_7 x0 x2 x8 x2 t16 (.int .i64 (0)) g  K
abbrev kj21_2  (K : LV → LHeap → Prop) : LSt → Prop := fun st => J21_2 (st.tm 0) (st.tm 2) (st.tm 8) st.g  K
theorem J21_2_ok  (K : LV → LHeap → Prop) (tm : Nat → LV) (g : LHeap) (h : J21_2 (tm 0) (tm 2) (tm 8) g  K) : codeL Try.prog (Ok Try.prog) (nd21 [1, 1, 1]) ⟨tm, g⟩ (en21 K) := by
  refine seq_i (a := nd21 [1, 1, 1, 0]) (b := nd21 [1, 1, 1, 1]) (k' := kj21_3  K) (by kernel_rfl) (fun st h => J21_3_ok  K st.tm st.g h) ?_
  refine seq_i (a := nd21 [1, 1, 1, 0, 0]) (b := nd21 [1, 1, 1, 0, 1]) (k' := kj21_7  K) (by kernel_rfl) (fun st h => J21_7_ok  K st.tm st.g h) ?_
  try unfold J21_2 at h
  unfold kj21_7
  generalize @J21_7 = Q21_7 at h ⊢
  unfold kj21_3
  generalize @J21_3 = Q21_3 at h ⊢
  refine code2_sound ok_mono _ _ _ ?_
  refine kmp ?_ h
  generalize Ok Try.prog = C
  unfold en21
  as_aux_lemma => kernel_rfl

noncomputable def J21_1 (x0 x1 x2 : LV) (g : LHeap)  (K : LV → LHeap → Prop) : Prop :=
  vK (buildL Try.prog 101 [(0, x1)]) fun t14 =>
  oK (newL (.agg [(.int .i64 (0)), (.bool false), (.bool false), (.bool false), (.bool false), (.bool false), (.bool false), (.bool false), (.bool false)]) g) fun t8 g =>
  gK (storeV 9 t8 t14 g) fun g =>
  J21_2 x0 x2 t8 g  K
abbrev kj21_1  (K : LV → LHeap → Prop) : LSt → Prop := fun st => J21_1 (st.tm 0) (st.tm 1) (st.tm 2) st.g  K
theorem J21_1_ok  (K : LV → LHeap → Prop) (tm : Nat → LV) (g : LHeap) (h : J21_1 (tm 0) (tm 1) (tm 2) g  K) : codeL Try.prog (Ok Try.prog) (nd21 [1, 1]) ⟨tm, g⟩ (en21 K) := by
  refine seq_i (a := nd21 [1, 1, 0]) (b := nd21 [1, 1, 1]) (k' := kj21_2  K) (by kernel_rfl) (fun st h => J21_2_ok  K st.tm st.g h) ?_
  try unfold J21_1 at h
  unfold kj21_2
  generalize @J21_2 = Q21_2 at h ⊢
  refine code2_sound ok_mono _ _ _ ?_
  refine kmp ?_ h
  generalize Ok Try.prog = C
  unfold en21
  as_aux_lemma => kernel_rfl

noncomputable def J21_0 (x0 x1 x2 : LV) (g : LHeap)  (K : LV → LHeap → Prop) : Prop :=
  vK (binL Try.prog .eql 36 true x0 .nilp) fun t12 =>
  ifB t12 (
  K (.tuple [(.int .i64 (0)), (.int .i64 (6))]) g) (
  J21_1 x0 x1 x2 g  K)
abbrev kj21_0  (K : LV → LHeap → Prop) : LSt → Prop := fun st => J21_0 (st.tm 0) (st.tm 1) (st.tm 2) st.g  K
theorem J21_0_ok  (K : LV → LHeap → Prop) (tm : Nat → LV) (g : LHeap) (h : J21_0 (tm 0) (tm 1) (tm 2) g  K) : codeL Try.prog (Ok Try.prog) (nd21 [1]) ⟨tm, g⟩ (en21 K) := by
  refine seq_i (a := nd21 [1, 0]) (b := nd21 [1, 1]) (k' := kj21_1  K) (by kernel_rfl) (fun st h => J21_1_ok  K st.tm st.g h) ?_
  try unfold J21_0 at h
  unfold kj21_1
  generalize @J21_1 = Q21_1 at h ⊢
  refine code2_sound ok_mono _ _ _ ?_
  refine kmp ?_ h
  generalize Ok Try.prog = C
  unfold en21
  as_aux_lemma => kernel_rfl

noncomputable def F21 (x0 x1 x2 : LV) (g : LHeap) (K : LV → LHeap → Prop) : Prop :=
  J21_0 x0 x1 x2 g  K
theorem ok21 {x0 x1 x2 : LV} {g : LHeap} {K : LV → LHeap → Prop} (h : g.Wf → (∀ v ∈ ([x0, x1, x2] : List LV), ∀ b ∈ v.objs, b < g.next) → F21 x0 x1 x2 g K) : Ok Try.prog 21 [x0, x1, x2] g K := by
  refine ok_fw Try.mixed Try.func21 (by kernel_rfl) (by kernel_rfl) (c := nd21 []) (by kernel_rfl) fun wf lt => ?_
  rw [← en21_eq]
  replace h := h wf lt
  generalize hs : startL _ = tm
  replace h : F21 (tm 0) (tm 1) (tm 2) g K := by rw [← hs]; exact h
  refine seq_i (a := nd21 [0]) (b := nd21 [1]) (k' := kj21_0  K) (by kernel_rfl) (fun st h => J21_0_ok  K st.tm st.g h) ?_
  try unfold F21 at h
  unfold kj21_0
  generalize @J21_0 = Q21_0 at h ⊢
  refine code2_sound ok_mono _ _ _ ?_
  refine kmp ?_ h
  generalize Ok Try.prog = C
  unfold en21
  as_aux_lemma => kernel_rfl

/-! (*parapet/tlb.Tlb).Pending (33 slots) -/
noncomputable def en22 (K : LV → LHeap → Prop) : LEx → LSt → Prop := fun e st => match e with
  | .exit _ => False
  | _ => K (st.tm 4) st.g
theorem en22_eq (K : LV → LHeap → Prop) : en22 K = endL Try.prog Try.f22 K := by
  funext e st
  cases e <;> kernel_rfl
noncomputable def nd22 (p : List Nat) : Code := subC p (bodyC Try.prog 22)
noncomputable def J22_3 (x5 : LV) (g : LHeap)  (K : LV → LHeap → Prop) : Prop :=
  Ok Try.prog 46 [x5] g fun t31 g =>
  K x5 g
abbrev kj22_3  (K : LV → LHeap → Prop) : LSt → Prop := fun st => J22_3 (st.tm 5) st.g  K
theorem J22_3_ok  (K : LV → LHeap → Prop) (tm : Nat → LV) (g : LHeap) (h : J22_3 (tm 5) g  K) : codeL Try.prog (Ok Try.prog) (nd22 [1, 1, 1, 1]) ⟨tm, g⟩ (en22 K) := by
  try unfold J22_3 at h
  refine code2_sound ok_mono _ _ _ ?_
  refine kmp ?_ h
  generalize Ok Try.prog = C
  unfold en22
  as_aux_lemma => kernel_rfl

noncomputable def L22_5 (x1 x16 : LV) (x5 : LV) (g : LHeap) (N5 : LV → LHeap → Prop) (K : LV → LHeap → Prop) : Prop :=
  nextMapL x16 g fun t17 g =>
  vK (extractL t17 0) fun t18 =>
  ifB t18 (
  vK (entryL x16 g) fun t19 =>
  vK (extractL t19 0) fun t20 =>
  vK (extractL t19 1) fun t21 =>
  oK (newL (.agg [(.int .i64 (0)), (.bool false), (.bool false), (.bool false), (.bool false), (.bool false), (.bool false), (.bool false), (.bool false)]) g) fun t7 g =>
  gK (storeV 9 t7 t21 g) fun g =>
  vK (fieldAddrL 1 t7) fun t23 =>
  vK (ixAddrL (some 8) 1 t23 x1) fun t24 =>
  vK (loadV none t24 g) fun t25 =>
  ifB t25 (
  oK (buildSliceL Try.prog 24 1 [(0, t20)] g) fun t28 g =>
  oK (builtinL Try.prog .append [24, 24] [x5, t28] g) fun t29 g =>
  N5 t29 g) (
  N5 x5 g)) (
  J22_3 x5 g  K)
theorem L22_5_ok (R5 : LV × LV → LV → LHeap → Prop) (K : LV → LHeap → Prop) (tm : Nat → LV) (g : LHeap) (h : L22_5 (tm 1) (tm 16) (tm 5) g (fun s g => R5 ((tm 1), (tm 16)) s g) K) : codeL Try.prog (Ok Try.prog) (nd22 [1, 1, 1, 0, 1, 0, 0]) ⟨tm, g⟩ (roundK (fun tm : Nat → LV => (tm 1, tm 16)) (fun tm : Nat → LV => tm 5) R5 (exitL 0 (thenL (kj22_3  K) (en22 K)))) := by
  try unfold L22_5 at h
  unfold kj22_3
  generalize @J22_3 = Q22_3 at h ⊢
  refine code2_sound ok_mono _ _ _ ?_
  refine kmp ?_ h
  generalize Ok Try.prog = C
  unfold en22
  as_aux_lemma => kernel_rfl

noncomputable def J22_4 (x1 x5 x16 : LV) (g : LHeap)  (K : LV → LHeap → Prop) : Prop :=
  loopP (fun s g N => L22_5 x1 x16 s g N  K) x5 g
abbrev kj22_4  (K : LV → LHeap → Prop) : LSt → Prop := fun st => J22_4 (st.tm 1) (st.tm 5) (st.tm 16) st.g  K
theorem J22_4_ok  (K : LV → LHeap → Prop) (tm : Nat → LV) (g : LHeap) (h : J22_4 (tm 1) (tm 5) (tm 16) g  K) : codeL Try.prog (Ok Try.prog) (nd22 [1, 1, 1, 0, 1]) ⟨tm, g⟩ (thenL (kj22_3  K) (en22 K)) := by
  refine block_i (b := nd22 [1, 1, 1, 0, 1, 0]) (i := 0) (by kernel_rfl) ?_
  exact loop_glue (b := nd22 [1, 1, 1, 0, 1, 0, 0]) (by kernel_rfl) (fun tm : Nat → LV => (tm 1, tm 16)) (fun tm : Nat → LV => tm 5) (fun a s g N => L22_5 a.1 a.2 s g N  K) (fun tm g R h => L22_5_ok R  K tm g h) tm g h

noncomputable def J22_2 (x0 x1 x5 : LV) (g : LHeap)  (K : LV → LHeap → Prop) : Prop :=
  vK (nilCheckL x0) fun t13 =>
  vK (fieldAddrL 3 t13) fun t14 =>
  vK (loadV none t14 g) fun t15 =>
  oK (rangeL Try.prog 91 t15 g) fun t16 g =>
  J22_4 x1 x5 t16 g  K
abbrev kj22_2  (K : LV → LHeap → Prop) : LSt → Prop := fun st => J22_2 (st.tm 0) (st.tm 1) (st.tm 5) st.g  K
theorem J22_2_ok  (K : LV → LHeap → Prop) (tm : Nat → LV) (g : LHeap) (h : J22_2 (tm 0) (tm 1) (tm 5) g  K) : codeL Try.prog (Ok Try.prog) (nd22 [1, 1, 1]) ⟨tm, g⟩ (en22 K) := by
  refine seq_i (a := nd22 [1, 1, 1, 0]) (b := nd22 [1, 1, 1, 1]) (k' := kj22_3  K) (by kernel_rfl) (fun st h => J22_3_ok  K st.tm st.g h) ?_
  refine seq_i (a := nd22 [1, 1, 1, 0, 0]) (b := nd22 [1, 1, 1, 0, 1]) (k' := kj22_4  K) (by kernel_rfl) (fun st h => J22_4_ok  K st.tm st.g h) ?_
  try unfold J22_2 at h
  unfold kj22_4
  generalize @J22_4 = Q22_4 at h ⊢
  unfold kj22_3
  generalize @J22_3 = Q22_3 at h ⊢
  refine code2_sound ok_mono _ _ _ ?_
  refine kmp ?_ h
  generalize Ok Try.prog = C
  unfold en22
  as_aux_lemma => kernel_rfl

noncomputable def J22_1 (x0 x1 : LV) (g : LHeap)  (K : LV → LHeap → Prop) : Prop :=
  J22_2 x0 x1 .nils g  K
abbrev kj22_1  (K : LV → LHeap → Prop) : LSt → Prop := fun st => J22_1 (st.tm 0) (st.tm 1) st.g  K
theorem J22_1_ok  (K : LV → LHeap → Prop) (tm : Nat → LV) (g : LHeap) (h : J22_1 (tm 0) (tm 1) g  K) : codeL Try.prog (Ok Try.prog) (nd22 [1, 1]) ⟨tm, g⟩ (en22 K) := by
  refine seq_i (a := nd22 [1, 1, 0]) (b := nd22 [1, 1, 1]) (k' := kj22_2  K) (by kernel_rfl) (fun st h => J22_2_ok  K st.tm st.g h) ?_
  try unfold J22_1 at h
  unfold kj22_2
  generalize @J22_2 = Q22_2 at h ⊢
  refine code2_sound ok_mono _ _ _ ?_
  refine kmp ?_ h
  generalize Ok Try.prog = C
  unfold en22
  as_aux_lemma => kernel_rfl

noncomputable def J22_0 (x0 x1 : LV) (g : LHeap)  (K : LV → LHeap → Prop) : Prop :=
  Ok Try.prog 44 [x0, x1] g fun t10 g =>
  vK (unL .not t10) fun t11 =>
  ifB t11 (
  K .nils g) (
  J22_1 x0 x1 g  K)
abbrev kj22_0  (K : LV → LHeap → Prop) : LSt → Prop := fun st => J22_0 (st.tm 0) (st.tm 1) st.g  K
theorem J22_0_ok  (K : LV → LHeap → Prop) (tm : Nat → LV) (g : LHeap) (h : J22_0 (tm 0) (tm 1) g  K) : codeL Try.prog (Ok Try.prog) (nd22 [1]) ⟨tm, g⟩ (en22 K) := by
  refine seq_i (a := nd22 [1, 0]) (b := nd22 [1, 1]) (k' := kj22_1  K) (by kernel_rfl) (fun st h => J22_1_ok  K st.tm st.g h) ?_
  try unfold J22_0 at h
  unfold kj22_1
  generalize @J22_1 = Q22_1 at h ⊢
  refine code2_sound ok_mono _ _ _ ?_
  refine kmp ?_ h
  generalize Ok Try.prog = C
  unfold en22
  as_aux_lemma => kernel_rfl

noncomputable def F22 (x0 x1 : LV) (g : LHeap) (K : LV → LHeap → Prop) : Prop :=
  J22_0 x0 x1 g  K
theorem ok22 {x0 x1 : LV} {g : LHeap} {K : LV → LHeap → Prop} (h : g.Wf → (∀ v ∈ ([x0, x1] : List LV), ∀ b ∈ v.objs, b < g.next) → F22 x0 x1 g K) : Ok Try.prog 22 [x0, x1] g K := by
  refine ok_fw Try.mixed Try.func22 (by kernel_rfl) (by kernel_rfl) (c := nd22 []) (by kernel_rfl) fun wf lt => ?_
  rw [← en22_eq]
  replace h := h wf lt
  generalize hs : startL _ = tm
  replace h : F22 (tm 0) (tm 1) g K := by rw [← hs]; exact h
  refine seq_i (a := nd22 [0]) (b := nd22 [1]) (k' := kj22_0  K) (by kernel_rfl) (fun st h => J22_0_ok  K st.tm st.g h) ?_
  try unfold F22 at h
  unfold kj22_0
  generalize @J22_0 = Q22_0 at h ⊢
  refine code2_sound ok_mono _ _ _ ?_
  refine kmp ?_ h
  generalize Ok Try.prog = C
  unfold en22
  as_aux_lemma => kernel_rfl

/-! (*parapet/tlb.Tlb).Over (32 slots) -/
noncomputable def en23 (K : LV → LHeap → Prop) : LEx → LSt → Prop := fun e st => match e with
  | .exit _ => False
  | _ => K (st.tm 4) st.g
theorem en23_eq (K : LV → LHeap → Prop) : en23 K = endL Try.prog Try.f23 K := by
  funext e st
  cases e <;> kernel_rfl
noncomputable def nd23 (p : List Nat) : Code := subC p (bodyC Try.prog 23)
noncomputable def F23 (x0 x1 : LV) (g : LHeap) (K : LV → LHeap → Prop) : Prop :=
  vK (binL Try.prog .eql 36 true x0 .nilp) fun t8 =>
  gd t8 false g (fun K => K x1 g) fun t10 g =>
  gd t8 false g (fun K => vK (binL Try.prog .lss 3 true t10 (.int .i64 (1))) fun v => K v g) fun t11 g =>
  vK (pickL t8 (.bool true) t11) fun t12 =>
  gd t12 false g (fun K => K x1 g) fun t14 g =>
  gd t12 false g (fun K => K x0 g) fun t15 g =>
  gd t12 false g (fun K => vK (nilCheckL t15) fun v => K v g) fun t16 g =>
  gd t12 false g (fun K => vK (fieldAddrL 2 t16) fun v => K v g) fun t17 g =>
  gd t12 false g (fun K => vK (loadV none t17 g) fun v => K v g) fun t18 g =>
  gd t12 false g (fun K => vK (binL Try.prog .gtr 3 false t14 t18) fun v => K v g) fun t19 g =>
  vK (pickL t12 (.bool true) t19) fun t20 =>
  ifB t20 (
  K (.bool false) g) (
  vK (nilCheckL x0) fun t23 =>
  vK (fieldAddrL 3 t23) fun t24 =>
  vK (loadV none t24 g) fun t25 =>
  vK (lookupL Try.prog 91 t25 x1 true g) fun t27 =>
  vK (extractL t27 0) fun t28 =>
  vK (extractL t27 1) fun t29 =>
  oK (newL (.agg [(.int .i64 (0)), (.bool false), (.bool false), (.bool false), (.bool false), (.bool false), (.bool false), (.bool false), (.bool false)]) g) fun t5 g =>
  gK (storeV 9 t5 t28 g) fun g =>
  vK (unL .not t29) fun t31 =>
  K t31 g)
theorem ok23 {x0 x1 : LV} {g : LHeap} {K : LV → LHeap → Prop} (h : g.Wf → (∀ v ∈ ([x0, x1] : List LV), ∀ b ∈ v.objs, b < g.next) → F23 x0 x1 g K) : Ok Try.prog 23 [x0, x1] g K := by
  refine ok_fw Try.mixed Try.func23 (by kernel_rfl) (by kernel_rfl) (c := nd23 []) (by kernel_rfl) fun wf lt => ?_
  rw [← en23_eq]
  replace h := h wf lt
  generalize hs : startL _ = tm
  replace h : F23 (tm 0) (tm 1) g K := by rw [← hs]; exact h
  try unfold F23 at h
  refine code2_sound ok_mono _ _ _ ?_
  refine kmp ?_ h
  generalize Ok Try.prog = C
  unfold en23
  as_aux_lemma => kernel_rfl

/-! (*parapet/tlb.Tlb).Handle (54 slots) -/
noncomputable def en24 (K : LV → LHeap → Prop) : LEx → LSt → Prop := fun e st => match e with
  | .exit _ => False
  | _ => K (st.tm 4) st.g
theorem en24_eq (K : LV → LHeap → Prop) : en24 K = endL Try.prog Try.f24 K := by
  funext e st
  cases e <;> kernel_rfl
noncomputable def nd24 (p : List Nat) : Code := subC p (bodyC Try.prog 24)
noncomputable def J24_2 (x5 : LV) (g : LHeap)  (K : LV → LHeap → Prop) : Prop :=
  oK (builtinL Try.prog .len [24] [x5] g) fun t53 g =>
  K t53 g
abbrev kj24_2  (K : LV → LHeap → Prop) : LSt → Prop := fun st => J24_2 (st.tm 5) st.g  K
theorem J24_2_ok  (K : LV → LHeap → Prop) (tm : Nat → LV) (g : LHeap) (h : J24_2 (tm 5) g  K) : codeL Try.prog (Ok Try.prog) (nd24 [1, 1, 1]) ⟨tm, g⟩ (en24 K) := by
  try unfold J24_2 at h
  refine code2_sound ok_mono _ _ _ ?_
  refine kmp ?_ h
  generalize Ok Try.prog = C
  unfold en24
  as_aux_lemma => kernel_rfl

noncomputable def L24_4 (x0 x1 x5 x12 x13 : LV) (x14 : LV) (g : LHeap) (N4 : LV → LHeap → Prop) (K : LV → LHeap → Prop) : Prop :=
  vK (binL Try.prog .lss 3 false x14 x13) fun t15 =>
  ifB t15 (
  vK (ixAddrL none 1 x12 x14) fun t16 =>
  vK (loadV none t16 g) fun t17 =>
  vK (nilCheckL x0) fun t19 =>
  vK (fieldAddrL 3 t19) fun t20 =>
  vK (loadV none t20 g) fun t21 =>
  vK (lookupL Try.prog 91 t21 t17 false g) fun t23 =>
  oK (newL (.agg [(.int .i64 (0)), (.bool false), (.bool false), (.bool false), (.bool false), (.bool false), (.bool false), (.bool false), (.bool false)]) g) fun t8 g =>
  gK (storeV 9 t8 t23 g) fun g =>
  vK (nilCheckL x0) fun t25 =>
  vK (fieldAddrL 1 t25) fun t26 =>
  vK (loadV none t26 g) fun t27 =>
  vK (ixAddrL none 2 t27 x1) fun t29 =>
  vK (fieldAddrL 0 t8) fun t30 =>
  vK (loadV none t30 g) fun t31 =>
  ((Ok Try.prog 47 [t29, t31] g fun t32 g =>
  
  vK (fieldAddrL 1 t8) fun t34 =>
  vK (ixAddrL (some 8) 1 t34 x1) fun t35 =>
  gK (storeV 1 t35 (.bool false) g) fun g =>
  vK (fieldAddrL 1 t8) fun t36 =>
  vK (loadV (some 8) t36 g) fun t37 =>
  vK (buildL Try.prog 99 []) fun t38 =>
  vK (binL Try.prog .eql 99 false t37 t38) fun t39 =>
  ifB t39 (
  vK (nilCheckL x0) fun t41 =>
  vK (fieldAddrL 3 t41) fun t42 =>
  vK (loadV none t42 g) fun t43 =>
  oK (builtinL Try.prog .delete [91, 3] [t43, t17] g) fun u g =>
  vK (binL Try.prog .add 3 true x14 (.int .i64 (1))) fun t51 =>
  N4 t51 g) (
  vK (nilCheckL x0) fun t46 =>
  vK (fieldAddrL 3 t46) fun t47 =>
  vK (loadV none t47 g) fun t48 =>
  vK (loadV (some 9) t8 g) fun t50 =>
  ((gK (mapSetL Try.prog 91 t48 t17 t50 g) fun g =>
  
  vK (binL Try.prog .add 3 true x14 (.int .i64 (1))) fun t51 =>
  N4 t51 g) ∧ True))) ∧ True)) (
  J24_2 x5 g  K)
theorem L24_4_ok (R4 : LV × LV × LV × LV × LV → LV → LHeap → Prop) (K : LV → LHeap → Prop) (tm : Nat → LV) (g : LHeap) (h : L24_4 (tm 0) (tm 1) (tm 5) (tm 12) (tm 13) (tm 14) g (fun s g => R4 ((tm 0), (tm 1), (tm 5), (tm 12), (tm 13)) s g) K) : codeL Try.prog (Ok Try.prog) (nd24 [1, 1, 0, 1, 0, 0]) ⟨tm, g⟩ (roundK (fun tm : Nat → LV => (tm 0, tm 1, tm 5, tm 12, tm 13)) (fun tm : Nat → LV => tm 14) R4 (exitL 0 (thenL (kj24_2  K) (en24 K)))) := by
  try unfold L24_4 at h
  unfold kj24_2
  generalize @J24_2 = Q24_2 at h ⊢
  refine code2_sound ok_mono _ _ _ ?_
  refine kmp ?_ h
  generalize Ok Try.prog = C
  unfold en24
  as_aux_lemma => kernel_rfl

noncomputable def J24_3 (x0 x1 x5 x12 x13 x14 : LV) (g : LHeap)  (K : LV → LHeap → Prop) : Prop :=
  loopP (fun s g N => L24_4 x0 x1 x5 x12 x13 s g N  K) x14 g
abbrev kj24_3  (K : LV → LHeap → Prop) : LSt → Prop := fun st => J24_3 (st.tm 0) (st.tm 1) (st.tm 5) (st.tm 12) (st.tm 13) (st.tm 14) st.g  K
theorem J24_3_ok  (K : LV → LHeap → Prop) (tm : Nat → LV) (g : LHeap) (h : J24_3 (tm 0) (tm 1) (tm 5) (tm 12) (tm 13) (tm 14) g  K) : codeL Try.prog (Ok Try.prog) (nd24 [1, 1, 0, 1]) ⟨tm, g⟩ (thenL (kj24_2  K) (en24 K)) := by
  refine block_i (b := nd24 [1, 1, 0, 1, 0]) (i := 0) (by kernel_rfl) ?_
  exact loop_glue (b := nd24 [1, 1, 0, 1, 0, 0]) (by kernel_rfl) (fun tm : Nat → LV => (tm 0, tm 1, tm 5, tm 12, tm 13)) (fun tm : Nat → LV => tm 14) (fun a s g N => L24_4 a.1 a.2.1 a.2.2.1 a.2.2.2.1 a.2.2.2.2 s g N  K) (fun tm g R h => L24_4_ok R  K tm g h) tm g h

noncomputable def J24_1 (x0 x1 x5 : LV) (g : LHeap)  (K : LV → LHeap → Prop) : Prop :=
  oK (builtinL Try.prog .len [24] [x5] g) fun t13 g =>
  J24_3 x0 x1 x5 x5 t13 (.int .i64 (0)) g  K
abbrev kj24_1  (K : LV → LHeap → Prop) : LSt → Prop := fun st => J24_1 (st.tm 0) (st.tm 1) (st.tm 5) st.g  K
theorem J24_1_ok  (K : LV → LHeap → Prop) (tm : Nat → LV) (g : LHeap) (h : J24_1 (tm 0) (tm 1) (tm 5) g  K) : codeL Try.prog (Ok Try.prog) (nd24 [1, 1]) ⟨tm, g⟩ (en24 K) := by
  refine seq_i (a := nd24 [1, 1, 0]) (b := nd24 [1, 1, 1]) (k' := kj24_2  K) (by kernel_rfl) (fun st h => J24_2_ok  K st.tm st.g h) ?_
  refine seq_i (a := nd24 [1, 1, 0, 0]) (b := nd24 [1, 1, 0, 1]) (k' := kj24_3  K) (by kernel_rfl) (fun st h => J24_3_ok  K st.tm st.g h) ?_
  try unfold J24_1 at h
  unfold kj24_3
  generalize @J24_3 = Q24_3 at h ⊢
  unfold kj24_2
  generalize @J24_2 = Q24_2 at h ⊢
  refine code2_sound ok_mono _ _ _ ?_
  refine kmp ?_ h
  generalize Ok Try.prog = C
  unfold en24
  as_aux_lemma => kernel_rfl

noncomputable def J24_0 (x0 x1 : LV) (g : LHeap)  (K : LV → LHeap → Prop) : Prop :=
  Ok Try.prog 22 [x0, x1] g fun t11 g =>
  J24_1 x0 x1 t11 g  K
abbrev kj24_0  (K : LV → LHeap → Prop) : LSt → Prop := fun st => J24_0 (st.tm 0) (st.tm 1) st.g  K
theorem J24_0_ok  (K : LV → LHeap → Prop) (tm : Nat → LV) (g : LHeap) (h : J24_0 (tm 0) (tm 1) g  K) : codeL Try.prog (Ok Try.prog) (nd24 [1]) ⟨tm, g⟩ (en24 K) := by
  refine seq_i (a := nd24 [1, 0]) (b := nd24 [1, 1]) (k' := kj24_1  K) (by kernel_rfl) (fun st h => J24_1_ok  K st.tm st.g h) ?_
  try unfold J24_0 at h
  unfold kj24_1
  generalize @J24_1 = Q24_1 at h ⊢
  refine code2_sound ok_mono _ _ _ ?_
  refine kmp ?_ h
  generalize Ok Try.prog = C
  unfold en24
  as_aux_lemma => kernel_rfl

noncomputable def F24 (x0 x1 : LV) (g : LHeap) (K : LV → LHeap → Prop) : Prop :=
  J24_0 x0 x1 g  K
theorem ok24 {x0 x1 : LV} {g : LHeap} {K : LV → LHeap → Prop} (h : g.Wf → (∀ v ∈ ([x0, x1] : List LV), ∀ b ∈ v.objs, b < g.next) → F24 x0 x1 g K) : Ok Try.prog 24 [x0, x1] g K := by
  refine ok_fw Try.mixed Try.func24 (by kernel_rfl) (by kernel_rfl) (c := nd24 []) (by kernel_rfl) fun wf lt => ?_
  rw [← en24_eq]
  replace h := h wf lt
  generalize hs : startL _ = tm
  replace h : F24 (tm 0) (tm 1) g K := by rw [← hs]; exact h
  refine seq_i (a := nd24 [0]) (b := nd24 [1]) (k' := kj24_0  K) (by kernel_rfl) (fun st h => J24_0_ok  K st.tm st.g h) ?_
  try unfold F24 at h
  unfold kj24_0
  generalize @J24_0 = Q24_0 at h ⊢
  refine code2_sound ok_mono _ _ _ ?_
  refine kmp ?_ h
  generalize Ok Try.prog = C
  unfold en24
  as_aux_lemma => kernel_rfl

/-! (*parapet/tlb.Tlb).Kept (18 slots) -/
noncomputable def en25 (K : LV → LHeap → Prop) : LEx → LSt → Prop := fun e st => match e with
  | .exit _ => False
  | _ => K (st.tm 4) st.g
theorem en25_eq (K : LV → LHeap → Prop) : en25 K = endL Try.prog Try.f25 K := by
  funext e st
  cases e <;> kernel_rfl
noncomputable def nd25 (p : List Nat) : Code := subC p (bodyC Try.prog 25)
noncomputable def F25 (x0 x1 : LV) (g : LHeap) (K : LV → LHeap → Prop) : Prop :=
  Ok Try.prog 44 [x0, x1] g fun t7 g =>
  vK (unL .not t7) fun t8 =>
  ifB t8 (
  K .nils g) (
  vK (nilCheckL x0) fun t10 =>
  vK (fieldAddrL 1 t10) fun t11 =>
  vK (loadV none t11 g) fun t12 =>
  vK (ixAddrL none 2 t12 x1) fun t14 =>
  vK (fieldAddrL 1 t14) fun t15 =>
  vK (loadV none t15 g) fun t16 =>
  Ok Try.prog 48 [t16] g fun t17 g =>
  K t17 g)
theorem ok25 {x0 x1 : LV} {g : LHeap} {K : LV → LHeap → Prop} (h : g.Wf → (∀ v ∈ ([x0, x1] : List LV), ∀ b ∈ v.objs, b < g.next) → F25 x0 x1 g K) : Ok Try.prog 25 [x0, x1] g K := by
  refine ok_fw Try.mixed Try.func25 (by kernel_rfl) (by kernel_rfl) (c := nd25 []) (by kernel_rfl) fun wf lt => ?_
  rw [← en25_eq]
  replace h := h wf lt
  generalize hs : startL _ = tm
  replace h : F25 (tm 0) (tm 1) g K := by rw [← hs]; exact h
  try unfold F25 at h
  refine code2_sound ok_mono _ _ _ ?_
  refine kmp ?_ h
  generalize Ok Try.prog = C
  unfold en25
  as_aux_lemma => kernel_rfl

/-! (*parapet/tlb.Tlb).Flush (19 slots) -/
noncomputable def en30 (K : LV → LHeap → Prop) : LEx → LSt → Prop := fun e st => match e with
  | .exit _ => False
  | _ => K (st.tm 6) st.g
theorem en30_eq (K : LV → LHeap → Prop) : en30 K = endL Try.prog Try.f30 K := by
  funext e st
  cases e <;> kernel_rfl
noncomputable def nd30 (p : List Nat) : Code := subC p (bodyC Try.prog 30)
noncomputable def F30 (x0 x1 x2 : LV) (g : LHeap) (K : LV → LHeap → Prop) : Prop :=
  Ok Try.prog 44 [x0, x1] g fun t9 g =>
  vK (unL .not t9) fun t10 =>
  ifB t10 (
  K (.int .i64 (0)) g) (
  vK (nilCheckL x0) fun t12 =>
  vK (fieldAddrL 1 t12) fun t13 =>
  vK (loadV none t13 g) fun t14 =>
  vK (ixAddrL none 2 t14 x1) fun t16 =>
  Ok Try.prog 47 [t16, x2] g fun t18 g =>
  K t18 g)
theorem ok30 {x0 x1 x2 : LV} {g : LHeap} {K : LV → LHeap → Prop} (h : g.Wf → (∀ v ∈ ([x0, x1, x2] : List LV), ∀ b ∈ v.objs, b < g.next) → F30 x0 x1 x2 g K) : Ok Try.prog 30 [x0, x1, x2] g K := by
  refine ok_fw Try.mixed Try.func30 (by kernel_rfl) (by kernel_rfl) (c := nd30 []) (by kernel_rfl) fun wf lt => ?_
  rw [← en30_eq]
  replace h := h wf lt
  generalize hs : startL _ = tm
  replace h : F30 (tm 0) (tm 1) (tm 2) g K := by rw [← hs]; exact h
  try unfold F30 at h
  refine code2_sound ok_mono _ _ _ ?_
  refine kmp ?_ h
  generalize Ok Try.prog = C
  unfold en30
  as_aux_lemma => kernel_rfl

/-! (*parapet/tlb.Tlb).Look (29 slots) -/
noncomputable def en31 (K : LV → LHeap → Prop) : LEx → LSt → Prop := fun e st => match e with
  | .exit _ => False
  | _ => K (.tuple [(st.tm 6), (st.tm 7)]) st.g
theorem en31_eq (K : LV → LHeap → Prop) : en31 K = endL Try.prog Try.f31 K := by
  funext e st
  cases e <;> kernel_rfl
noncomputable def nd31 (p : List Nat) : Code := subC p (bodyC Try.prog 31)
noncomputable def F31 (x0 x1 x2 : LV) (g : LHeap) (K : LV → LHeap → Prop) : Prop :=
  oK (newL x2 g) fun t5 g =>
  Ok Try.prog 44 [x0, x1] g fun t12 g =>
  vK (unL .not t12) fun t13 =>
  ifB t13 (
  K (.tuple [(.int .u32 (0)), (.bool false)]) g) (
  vK (nilCheckL x0) fun t16 =>
  vK (fieldAddrL 1 t16) fun t17 =>
  vK (loadV none t17 g) fun t18 =>
  vK (ixAddrL none 2 t18 x1) fun t20 =>
  vK (fieldAddrL 0 t20) fun t21 =>
  vK (loadV none t21 g) fun t22 =>
  vK (loadV (some 2) t5 g) fun t23 =>
  vK (lookupL Try.prog 94 t22 t23 true g) fun t24 =>
  vK (extractL t24 0) fun t25 =>
  vK (extractL t24 1) fun t26 =>
  K (.tuple [t25, t26]) g)
theorem ok31 {x0 x1 x2 : LV} {g : LHeap} {K : LV → LHeap → Prop} (h : g.Wf → (∀ v ∈ ([x0, x1, x2] : List LV), ∀ b ∈ v.objs, b < g.next) → F31 x0 x1 x2 g K) : Ok Try.prog 31 [x0, x1, x2] g K := by
  refine ok_fw Try.mixed Try.func31 (by kernel_rfl) (by kernel_rfl) (c := nd31 []) (by kernel_rfl) fun wf lt => ?_
  rw [← en31_eq]
  replace h := h wf lt
  generalize hs : startL _ = tm
  replace h : F31 (tm 0) (tm 1) (tm 2) g K := by rw [← hs]; exact h
  try unfold F31 at h
  refine code3_sound ok_mono (pl := [(3, (.lt 0 false (.lt 1 false (.lt 2 false (.lt 3 false (.lt 4 false (.lt 5 false (.lt 6 false (.lt 7 false (.lt 8 false (.lt 9 false (.lt 10 false (.lt 11 false (.lt 12 false (.lt 13 false (.lt 14 false .nil))))))))))))))))]) _ _ _ (by kernel_rfl) ?_
  refine kmp ?_ h
  generalize Ok Try.prog = C
  unfold en31
  as_aux_lemma => kernel_rfl

/-! (*parapet/tlb.Tlb).Open (10 slots) -/
noncomputable def en35 (K : LV → LHeap → Prop) : LEx → LSt → Prop := fun e st => match e with
  | .exit _ => False
  | _ => K (st.tm 2) st.g
theorem en35_eq (K : LV → LHeap → Prop) : en35 K = endL Try.prog Try.f35 K := by
  funext e st
  cases e <;> kernel_rfl
noncomputable def nd35 (p : List Nat) : Code := subC p (bodyC Try.prog 35)
noncomputable def F35 (x0 : LV) (g : LHeap) (K : LV → LHeap → Prop) : Prop :=
  vK (binL Try.prog .eql 36 true x0 .nilp) fun t4 =>
  ifB t4 (
  K (.int .i64 (0)) g) (
  vK (nilCheckL x0) fun t6 =>
  vK (fieldAddrL 3 t6) fun t7 =>
  vK (loadV none t7 g) fun t8 =>
  oK (builtinL Try.prog .len [91] [t8] g) fun t9 g =>
  K t9 g)
theorem ok35 {x0 : LV} {g : LHeap} {K : LV → LHeap → Prop} (h : g.Wf → (∀ v ∈ ([x0] : List LV), ∀ b ∈ v.objs, b < g.next) → F35 x0 g K) : Ok Try.prog 35 [x0] g K := by
  refine ok_fw Try.mixed Try.func35 (by kernel_rfl) (by kernel_rfl) (c := nd35 []) (by kernel_rfl) fun wf lt => ?_
  rw [← en35_eq]
  replace h := h wf lt
  generalize hs : startL _ = tm
  replace h : F35 (tm 0) g K := by rw [← hs]; exact h
  try unfold F35 at h
  refine code2_sound ok_mono _ _ _ ?_
  refine kmp ?_ h
  generalize Ok Try.prog = C
  unfold en35
  as_aux_lemma => kernel_rfl

/-! (*parapet/tlb.Tlb).Harts (10 slots) -/
noncomputable def en36 (K : LV → LHeap → Prop) : LEx → LSt → Prop := fun e st => match e with
  | .exit _ => False
  | _ => K (st.tm 2) st.g
theorem en36_eq (K : LV → LHeap → Prop) : en36 K = endL Try.prog Try.f36 K := by
  funext e st
  cases e <;> kernel_rfl
noncomputable def nd36 (p : List Nat) : Code := subC p (bodyC Try.prog 36)
noncomputable def F36 (x0 : LV) (g : LHeap) (K : LV → LHeap → Prop) : Prop :=
  vK (binL Try.prog .eql 36 true x0 .nilp) fun t4 =>
  ifB t4 (
  K (.int .i64 (0)) g) (
  vK (nilCheckL x0) fun t6 =>
  vK (fieldAddrL 1 t6) fun t7 =>
  vK (loadV none t7 g) fun t8 =>
  oK (builtinL Try.prog .len [90] [t8] g) fun t9 g =>
  K t9 g)
theorem ok36 {x0 : LV} {g : LHeap} {K : LV → LHeap → Prop} (h : g.Wf → (∀ v ∈ ([x0] : List LV), ∀ b ∈ v.objs, b < g.next) → F36 x0 g K) : Ok Try.prog 36 [x0] g K := by
  refine ok_fw Try.mixed Try.func36 (by kernel_rfl) (by kernel_rfl) (c := nd36 []) (by kernel_rfl) fun wf lt => ?_
  rw [← en36_eq]
  replace h := h wf lt
  generalize hs : startL _ = tm
  replace h : F36 (tm 0) g K := by rw [← hs]; exact h
  try unfold F36 at h
  refine code2_sound ok_mono _ _ _ ?_
  refine kmp ?_ h
  generalize Ok Try.prog = C
  unfold en36
  as_aux_lemma => kernel_rfl

/-! slices.Delete[[]parapet/api.Key,parapet/api.Key] (33 slots) -/
noncomputable def en45 (K : LV → LHeap → Prop) : LEx → LSt → Prop := fun e st => match e with
  | .exit _ => False
  | _ => K (st.tm 6) st.g
theorem en45_eq (K : LV → LHeap → Prop) : en45 K = endL Try.prog Try.f45 K := by
  funext e st
  cases e <;> kernel_rfl
noncomputable def nd45 (p : List Nat) : Code := subC p (bodyC Try.prog 45)
noncomputable def F45 (x0 x1 x2 : LV) (g : LHeap) (K : LV → LHeap → Prop) : Prop :=
  oK (builtinL Try.prog .len [50] [x0] g) fun t12 g =>
  vK (cutT Try.prog 50 x0 (some x1) (some x2) (some t12) (limL x0 g)) fun t13 =>
  vK (binL Try.prog .eql 3 false x1 x2) fun t16 =>
  ifB t16 (
  K x0 g) (
  oK (builtinL Try.prog .len [50] [x0] g) fun t19 g =>
  vK (cutT Try.prog 50 x0 none (some x1) none (limL x0 g)) fun t22 =>
  vK (cutT Try.prog 50 x0 (some x2) none none (limL x0 g)) fun t25 =>
  ((oK (builtinL Try.prog .append [50, 50] [t22, t25] g) fun t26 g =>
  
  oK (builtinL Try.prog .len [50] [t26] g) fun t29 g =>
  vK (cutT Try.prog 50 t26 (some t29) (some t19) none (limL t26 g)) fun t31 =>
  oK (builtinL Try.prog .clear [50] [t31] g) fun u g =>
  K t26 g) ∧ True))
theorem ok45 {x0 x1 x2 : LV} {g : LHeap} {K : LV → LHeap → Prop} (h : g.Wf → (∀ v ∈ ([x0, x1, x2] : List LV), ∀ b ∈ v.objs, b < g.next) → F45 x0 x1 x2 g K) : Ok Try.prog 45 [x0, x1, x2] g K := by
  refine ok_fw Try.mixed Try.func45 (by kernel_rfl) (by kernel_rfl) (c := nd45 []) (by kernel_rfl) fun wf lt => ?_
  rw [← en45_eq]
  replace h := h wf lt
  generalize hs : startL _ = tm
  replace h : F45 (tm 0) (tm 1) (tm 2) g K := by rw [← hs]; exact h
  try unfold F45 at h
  refine code2_sound ok_mono _ _ _ ?_
  refine kmp ?_ h
  generalize Ok Try.prog = C
  unfold en45
  as_aux_lemma => kernel_rfl

/-! slices.DeleteFunc[[]parapet/api.Key,parapet/api.Key] (42 slots) -/
noncomputable def en71 (K : LV → LHeap → Prop) : LEx → LSt → Prop := fun e st => match e with
  | .exit _ => False
  | _ => K (st.tm 4) st.g
theorem en71_eq (K : LV → LHeap → Prop) : en71 K = endL Try.prog Try.f71 K := by
  funext e st
  cases e <;> kernel_rfl
noncomputable def nd71 (p : List Nat) : Code := subC p (bodyC Try.prog 71)
noncomputable def J71_3 (x0 x5 : LV) (g : LHeap)  (K : LV → LHeap → Prop) : Prop :=
  vK (cutT Try.prog 50 x0 (some x5) none none (limL x0 g)) fun t38 =>
  oK (builtinL Try.prog .clear [50] [t38] g) fun u g =>
  vK (cutT Try.prog 50 x0 none (some x5) none (limL x0 g)) fun t41 =>
  K t41 g
abbrev kj71_3  (K : LV → LHeap → Prop) : LSt → Prop := fun st => J71_3 (st.tm 0) (st.tm 5) st.g  K
theorem J71_3_ok  (K : LV → LHeap → Prop) (tm : Nat → LV) (g : LHeap) (h : J71_3 (tm 0) (tm 5) g  K) : codeL Try.prog (Ok Try.prog) (nd71 [1, 1, 1, 1]) ⟨tm, g⟩ (en71 K) := by
  try unfold J71_3 at h
  refine code2_sound ok_mono _ _ _ ?_
  refine kmp ?_ h
  generalize Ok Try.prog = C
  unfold en71
  as_aux_lemma => kernel_rfl

noncomputable def L71_5 (x0 x1 : LV) (x5 x6 : LV) (g : LHeap) (N5 : LV × LV → LHeap → Prop) (K : LV → LHeap → Prop) : Prop :=
  oK (builtinL Try.prog .len [50] [x0] g) fun t18 g =>
  vK (binL Try.prog .lss 3 false x6 t18) fun t19 =>
  ifB t19 (
  vK (ixAddrL none 2 x0 x6) fun t24 =>
  vK (loadV (some 2) t24 g) fun t25 =>
  oK (newL (.agg [(.int .i64 (0)), (.int .i64 (0))]) g) fun t7 g =>
  gK (storeV 2 t7 t25 g) fun g =>
  vK (loadV (some 2) t7 g) fun t27 =>
  callV Try.prog (Ok Try.prog) x1 [t27] g fun t28 g =>
  vK (unL .not t28) fun t29 =>
  ifB t29 (
  vK (loadV (some 2) t7 g) fun t32 =>
  vK (ixAddrL none 2 x0 x5) fun t33 =>
  gK (storeV 2 t33 t32 g) fun g =>
  vK (binL Try.prog .add 3 true x5 (.int .i64 (1))) fun t35 =>
  vK (binL Try.prog .add 3 true x6 (.int .i64 (1))) fun t21 =>
  N5 (t35, t21) g) (
  vK (binL Try.prog .add 3 true x6 (.int .i64 (1))) fun t21 =>
  N5 (x5, t21) g)) (
  J71_3 x0 x5 g  K)
theorem L71_5_ok (R5 : LV × LV → LV × LV → LHeap → Prop) (K : LV → LHeap → Prop) (tm : Nat → LV) (g : LHeap) (h : L71_5 (tm 0) (tm 1) (tm 5) (tm 6) g (fun s g => R5 ((tm 0), (tm 1)) s g) K) : codeL Try.prog (Ok Try.prog) (nd71 [1, 1, 1, 0, 1, 0, 0]) ⟨tm, g⟩ (roundK (fun tm : Nat → LV => (tm 0, tm 1)) (fun tm : Nat → LV => (tm 5, tm 6)) R5 (exitL 0 (thenL (kj71_3  K) (en71 K)))) := by
  try unfold L71_5 at h
  unfold kj71_3
  generalize @J71_3 = Q71_3 at h ⊢
  refine code2_sound ok_mono _ _ _ ?_
  refine kmp ?_ h
  generalize Ok Try.prog = C
  unfold en71
  as_aux_lemma => kernel_rfl

noncomputable def J71_4 (x0 x1 x5 x6 : LV) (g : LHeap)  (K : LV → LHeap → Prop) : Prop :=
  loopP (fun s g N => L71_5 x0 x1 s.1 s.2 g N  K) (x5, x6) g
abbrev kj71_4  (K : LV → LHeap → Prop) : LSt → Prop := fun st => J71_4 (st.tm 0) (st.tm 1) (st.tm 5) (st.tm 6) st.g  K
theorem J71_4_ok  (K : LV → LHeap → Prop) (tm : Nat → LV) (g : LHeap) (h : J71_4 (tm 0) (tm 1) (tm 5) (tm 6) g  K) : codeL Try.prog (Ok Try.prog) (nd71 [1, 1, 1, 0, 1]) ⟨tm, g⟩ (thenL (kj71_3  K) (en71 K)) := by
  refine block_i (b := nd71 [1, 1, 1, 0, 1, 0]) (i := 0) (by kernel_rfl) ?_
  exact loop_glue (b := nd71 [1, 1, 1, 0, 1, 0, 0]) (by kernel_rfl) (fun tm : Nat → LV => (tm 0, tm 1)) (fun tm : Nat → LV => (tm 5, tm 6)) (fun a s g N => L71_5 a.1 a.2 s.1 s.2 g N  K) (fun tm g R h => L71_5_ok R  K tm g h) tm g h

noncomputable def J71_2 (x0 x1 x5 : LV) (g : LHeap)  (K : LV → LHeap → Prop) : Prop :=
  vK (binL Try.prog .add 3 true x5 (.int .i64 (1))) fun t15 =>
  J71_4 x0 x1 x5 t15 g  K
abbrev kj71_2  (K : LV → LHeap → Prop) : LSt → Prop := fun st => J71_2 (st.tm 0) (st.tm 1) (st.tm 5) st.g  K
theorem J71_2_ok  (K : LV → LHeap → Prop) (tm : Nat → LV) (g : LHeap) (h : J71_2 (tm 0) (tm 1) (tm 5) g  K) : codeL Try.prog (Ok Try.prog) (nd71 [1, 1, 1]) ⟨tm, g⟩ (en71 K) := by
  refine seq_i (a := nd71 [1, 1, 1, 0]) (b := nd71 [1, 1, 1, 1]) (k' := kj71_3  K) (by kernel_rfl) (fun st h => J71_3_ok  K st.tm st.g h) ?_
  refine seq_i (a := nd71 [1, 1, 1, 0, 0]) (b := nd71 [1, 1, 1, 0, 1]) (k' := kj71_4  K) (by kernel_rfl) (fun st h => J71_4_ok  K st.tm st.g h) ?_
  try unfold J71_2 at h
  unfold kj71_4
  generalize @J71_4 = Q71_4 at h ⊢
  unfold kj71_3
  generalize @J71_3 = Q71_3 at h ⊢
  refine code2_sound ok_mono _ _ _ ?_
  refine kmp ?_ h
  generalize Ok Try.prog = C
  unfold en71
  as_aux_lemma => kernel_rfl

noncomputable def J71_1 (x0 x1 x5 : LV) (g : LHeap)  (K : LV → LHeap → Prop) : Prop :=
  vK (binL Try.prog .eql 3 true x5 (.int .i64 (-1))) fun t12 =>
  ifB t12 (
  K x0 g) (
  J71_2 x0 x1 x5 g  K)
abbrev kj71_1  (K : LV → LHeap → Prop) : LSt → Prop := fun st => J71_1 (st.tm 0) (st.tm 1) (st.tm 5) st.g  K
theorem J71_1_ok  (K : LV → LHeap → Prop) (tm : Nat → LV) (g : LHeap) (h : J71_1 (tm 0) (tm 1) (tm 5) g  K) : codeL Try.prog (Ok Try.prog) (nd71 [1, 1]) ⟨tm, g⟩ (en71 K) := by
  refine seq_i (a := nd71 [1, 1, 0]) (b := nd71 [1, 1, 1]) (k' := kj71_2  K) (by kernel_rfl) (fun st h => J71_2_ok  K st.tm st.g h) ?_
  try unfold J71_1 at h
  unfold kj71_2
  generalize @J71_2 = Q71_2 at h ⊢
  refine code2_sound ok_mono _ _ _ ?_
  refine kmp ?_ h
  generalize Ok Try.prog = C
  unfold en71
  as_aux_lemma => kernel_rfl

noncomputable def J71_0 (x0 x1 : LV) (g : LHeap)  (K : LV → LHeap → Prop) : Prop :=
  Ok Try.prog 92 [x0, x1] g fun t10 g =>
  J71_1 x0 x1 t10 g  K
abbrev kj71_0  (K : LV → LHeap → Prop) : LSt → Prop := fun st => J71_0 (st.tm 0) (st.tm 1) st.g  K
theorem J71_0_ok  (K : LV → LHeap → Prop) (tm : Nat → LV) (g : LHeap) (h : J71_0 (tm 0) (tm 1) g  K) : codeL Try.prog (Ok Try.prog) (nd71 [1]) ⟨tm, g⟩ (en71 K) := by
  refine seq_i (a := nd71 [1, 0]) (b := nd71 [1, 1]) (k' := kj71_1  K) (by kernel_rfl) (fun st h => J71_1_ok  K st.tm st.g h) ?_
  try unfold J71_0 at h
  unfold kj71_1
  generalize @J71_1 = Q71_1 at h ⊢
  refine code2_sound ok_mono _ _ _ ?_
  refine kmp ?_ h
  generalize Ok Try.prog = C
  unfold en71
  as_aux_lemma => kernel_rfl

noncomputable def F71 (x0 x1 : LV) (g : LHeap) (K : LV → LHeap → Prop) : Prop :=
  J71_0 x0 x1 g  K
theorem ok71 {x0 x1 : LV} {g : LHeap} {K : LV → LHeap → Prop} (h : g.Wf → (∀ v ∈ ([x0, x1] : List LV), ∀ b ∈ v.objs, b < g.next) → F71 x0 x1 g K) : Ok Try.prog 71 [x0, x1] g K := by
  refine ok_fw Try.mixed Try.func71 (by kernel_rfl) (by kernel_rfl) (c := nd71 []) (by kernel_rfl) fun wf lt => ?_
  rw [← en71_eq]
  replace h := h wf lt
  generalize hs : startL _ = tm
  replace h : F71 (tm 0) (tm 1) g K := by rw [← hs]; exact h
  refine seq_i (a := nd71 [0]) (b := nd71 [1]) (k' := kj71_0  K) (by kernel_rfl) (fun st h => J71_0_ok  K st.tm st.g h) ?_
  try unfold F71 at h
  unfold kj71_0
  generalize @J71_0 = Q71_0 at h ⊢
  refine code2_sound ok_mono _ _ _ ?_
  refine kmp ?_ h
  generalize Ok Try.prog = C
  unfold en71
  as_aux_lemma => kernel_rfl

/-! maps.DeleteFunc[map[parapet/api.Key]uint32,parapet/api.Key,uint32] (19 slots) -/
noncomputable def en73 (K : LV → LHeap → Prop) : LEx → LSt → Prop := fun e st => match e with
  | .exit _ => False
  | _ => K (.tuple []) st.g
theorem en73_eq (K : LV → LHeap → Prop) : en73 K = endL Try.prog Try.f73 K := by
  funext e st
  cases e <;> kernel_rfl
noncomputable def nd73 (p : List Nat) : Code := subC p (bodyC Try.prog 73)
noncomputable def L73_1 (x0 x1 x7 : LV) (g : LHeap) (N1 : Unit → LHeap → Prop) (K : LV → LHeap → Prop) : Prop :=
  nextMapL x7 g fun t8 g =>
  vK (extractL t8 0) fun t9 =>
  ifB t9 (
  vK (entryL x7 g) fun t10 =>
  vK (extractL t10 0) fun t11 =>
  vK (extractL t10 1) fun t12 =>
  oK (newL (.agg [(.int .i64 (0)), (.int .i64 (0))]) g) fun t4 g =>
  gK (storeV 2 t4 t11 g) fun g =>
  vK (loadV (some 2) t4 g) fun t14 =>
  callV Try.prog (Ok Try.prog) x1 [t14, t12] g fun t16 g =>
  ifB t16 (
  vK (loadV (some 2) t4 g) fun t18 =>
  oK (builtinL Try.prog .delete [94, 41] [x0, t18] g) fun u g =>
  N1 () g) (
  N1 () g)) (
  K (.tuple []) g)
theorem L73_1_ok (R1 : LV × LV × LV → Unit → LHeap → Prop) (K : LV → LHeap → Prop) (tm : Nat → LV) (g : LHeap) (h : L73_1 (tm 0) (tm 1) (tm 7) g (fun s g => R1 ((tm 0), (tm 1), (tm 7)) s g) K) : codeL Try.prog (Ok Try.prog) (nd73 [1, 0, 0]) ⟨tm, g⟩ (roundK (fun tm : Nat → LV => (tm 0, tm 1, tm 7)) (fun tm : Nat → LV => ()) R1 (exitL 0 (en73 K))) := by
  try unfold L73_1 at h
  refine code2_sound ok_mono _ _ _ ?_
  refine kmp ?_ h
  generalize Ok Try.prog = C
  unfold en73
  as_aux_lemma => kernel_rfl

noncomputable def J73_0 (x0 x1 x7 : LV) (g : LHeap)  (K : LV → LHeap → Prop) : Prop :=
  loopP (fun s g N => L73_1 x0 x1 x7  g N  K) () g
abbrev kj73_0  (K : LV → LHeap → Prop) : LSt → Prop := fun st => J73_0 (st.tm 0) (st.tm 1) (st.tm 7) st.g  K
theorem J73_0_ok  (K : LV → LHeap → Prop) (tm : Nat → LV) (g : LHeap) (h : J73_0 (tm 0) (tm 1) (tm 7) g  K) : codeL Try.prog (Ok Try.prog) (nd73 [1]) ⟨tm, g⟩ (en73 K) := by
  refine block_i (b := nd73 [1, 0]) (i := 0) (by kernel_rfl) ?_
  exact loop_glue (b := nd73 [1, 0, 0]) (by kernel_rfl) (fun tm : Nat → LV => (tm 0, tm 1, tm 7)) (fun tm : Nat → LV => ()) (fun a s g N => L73_1 a.1 a.2.1 a.2.2  g N  K) (fun tm g R h => L73_1_ok R  K tm g h) tm g h

noncomputable def F73 (x0 x1 : LV) (g : LHeap) (K : LV → LHeap → Prop) : Prop :=
  oK (rangeL Try.prog 94 x0 g) fun t7 g =>
  J73_0 x0 x1 t7 g  K
theorem ok73 {x0 x1 : LV} {g : LHeap} {K : LV → LHeap → Prop} (h : g.Wf → (∀ v ∈ ([x0, x1] : List LV), ∀ b ∈ v.objs, b < g.next) → F73 x0 x1 g K) : Ok Try.prog 73 [x0, x1] g K := by
  refine ok_fw Try.mixed Try.func73 (by kernel_rfl) (by kernel_rfl) (c := nd73 []) (by kernel_rfl) fun wf lt => ?_
  rw [← en73_eq]
  replace h := h wf lt
  generalize hs : startL _ = tm
  replace h : F73 (tm 0) (tm 1) g K := by rw [← hs]; exact h
  refine seq_i (a := nd73 [0]) (b := nd73 [1]) (k' := kj73_0  K) (by kernel_rfl) (fun st h => J73_0_ok  K st.tm st.g h) ?_
  try unfold F73 at h
  unfold kj73_0
  generalize @J73_0 = Q73_0 at h ⊢
  refine code2_sound ok_mono _ _ _ ?_
  refine kmp ?_ h
  generalize Ok Try.prog = C
  unfold en73
  as_aux_lemma => kernel_rfl

/-! slices.Clone[[]parapet/api.Key,parapet/api.Key] (8 slots) -/
noncomputable def en48 (K : LV → LHeap → Prop) : LEx → LSt → Prop := fun e st => match e with
  | .exit _ => False
  | _ => K (st.tm 2) st.g
theorem en48_eq (K : LV → LHeap → Prop) : en48 K = endL Try.prog Try.f48 K := by
  funext e st
  cases e <;> kernel_rfl
noncomputable def nd48 (p : List Nat) : Code := subC p (bodyC Try.prog 48)
noncomputable def F48 (x0 : LV) (g : LHeap) (K : LV → LHeap → Prop) : Prop :=
  vK (binL Try.prog .eql 50 true x0 .nils) fun t4 =>
  ifB t4 (
  K .nils g) (
  oK (buildSliceL Try.prog 50 0 [] g) fun t5 g =>
  oK (builtinL Try.prog .append [50, 50] [t5, x0] g) fun t7 g =>
  K t7 g)
theorem ok48 {x0 : LV} {g : LHeap} {K : LV → LHeap → Prop} (h : g.Wf → (∀ v ∈ ([x0] : List LV), ∀ b ∈ v.objs, b < g.next) → F48 x0 g K) : Ok Try.prog 48 [x0] g K := by
  refine ok_fw Try.mixed Try.func48 (by kernel_rfl) (by kernel_rfl) (c := nd48 []) (by kernel_rfl) fun wf lt => ?_
  rw [← en48_eq]
  replace h := h wf lt
  generalize hs : startL _ = tm
  replace h : F48 (tm 0) g K := by rw [← hs]; exact h
  try unfold F48 at h
  refine code2_sound ok_mono _ _ _ ?_
  refine kmp ?_ h
  generalize Ok Try.prog = C
  unfold en48
  as_aux_lemma => kernel_rfl

/-! slices.IndexFunc[[]parapet/api.Key,parapet/api.Key] (19 slots) -/
noncomputable def en92 (K : LV → LHeap → Prop) : LEx → LSt → Prop := fun e st => match e with
  | .exit _ => False
  | _ => K (st.tm 4) st.g
theorem en92_eq (K : LV → LHeap → Prop) : en92 K = endL Try.prog Try.f92 K := by
  funext e st
  cases e <;> kernel_rfl
noncomputable def nd92 (p : List Nat) : Code := subC p (bodyC Try.prog 92)
noncomputable def J92_1 (g : LHeap)  (K : LV → LHeap → Prop) : Prop :=
  K (.int .i64 (-1)) g
abbrev kj92_1  (K : LV → LHeap → Prop) : LSt → Prop := fun st => J92_1  st.g  K
theorem J92_1_ok  (K : LV → LHeap → Prop) (tm : Nat → LV) (g : LHeap) (h : J92_1  g  K) : codeL Try.prog (Ok Try.prog) (nd92 [1, 1]) ⟨tm, g⟩ (en92 K) := by
  try unfold J92_1 at h
  refine code2_sound ok_mono _ _ _ ?_
  refine kmp ?_ h
  generalize Ok Try.prog = C
  unfold en92
  as_aux_lemma => kernel_rfl

noncomputable def L92_3 (x0 x1 x7 : LV) (x8 : LV) (g : LHeap) (N3 : LV → LHeap → Prop) (K : LV → LHeap → Prop) : Prop :=
  vK (binL Try.prog .lss 3 false x8 x7) fun t9 =>
  ifB t9 (
  vK (ixAddrL none 2 x0 x8) fun t14 =>
  vK (loadV (some 2) t14 g) fun t15 =>
  callV Try.prog (Ok Try.prog) x1 [t15] g fun t16 g =>
  ifB t16 (
  K x8 g) (
  vK (binL Try.prog .add 3 true x8 (.int .i64 (1))) fun t18 =>
  N3 t18 g)) (
  J92_1  g  K)
theorem L92_3_ok (R3 : LV × LV × LV → LV → LHeap → Prop) (K : LV → LHeap → Prop) (tm : Nat → LV) (g : LHeap) (h : L92_3 (tm 0) (tm 1) (tm 7) (tm 8) g (fun s g => R3 ((tm 0), (tm 1), (tm 7)) s g) K) : codeL Try.prog (Ok Try.prog) (nd92 [1, 0, 1, 0, 0]) ⟨tm, g⟩ (roundK (fun tm : Nat → LV => (tm 0, tm 1, tm 7)) (fun tm : Nat → LV => tm 8) R3 (exitL 0 (thenL (kj92_1  K) (en92 K)))) := by
  try unfold L92_3 at h
  unfold kj92_1
  generalize @J92_1 = Q92_1 at h ⊢
  refine code2_sound ok_mono _ _ _ ?_
  refine kmp ?_ h
  generalize Ok Try.prog = C
  unfold en92
  as_aux_lemma => kernel_rfl

noncomputable def J92_2 (x0 x1 x7 x8 : LV) (g : LHeap)  (K : LV → LHeap → Prop) : Prop :=
  loopP (fun s g N => L92_3 x0 x1 x7 s g N  K) x8 g
abbrev kj92_2  (K : LV → LHeap → Prop) : LSt → Prop := fun st => J92_2 (st.tm 0) (st.tm 1) (st.tm 7) (st.tm 8) st.g  K
theorem J92_2_ok  (K : LV → LHeap → Prop) (tm : Nat → LV) (g : LHeap) (h : J92_2 (tm 0) (tm 1) (tm 7) (tm 8) g  K) : codeL Try.prog (Ok Try.prog) (nd92 [1, 0, 1]) ⟨tm, g⟩ (thenL (kj92_1  K) (en92 K)) := by
  refine block_i (b := nd92 [1, 0, 1, 0]) (i := 0) (by kernel_rfl) ?_
  exact loop_glue (b := nd92 [1, 0, 1, 0, 0]) (by kernel_rfl) (fun tm : Nat → LV => (tm 0, tm 1, tm 7)) (fun tm : Nat → LV => tm 8) (fun a s g N => L92_3 a.1 a.2.1 a.2.2 s g N  K) (fun tm g R h => L92_3_ok R  K tm g h) tm g h

noncomputable def J92_0 (x0 x1 : LV) (g : LHeap)  (K : LV → LHeap → Prop) : Prop :=
  oK (builtinL Try.prog .len [50] [x0] g) fun t7 g =>
  J92_2 x0 x1 t7 (.int .i64 (0)) g  K
abbrev kj92_0  (K : LV → LHeap → Prop) : LSt → Prop := fun st => J92_0 (st.tm 0) (st.tm 1) st.g  K
theorem J92_0_ok  (K : LV → LHeap → Prop) (tm : Nat → LV) (g : LHeap) (h : J92_0 (tm 0) (tm 1) g  K) : codeL Try.prog (Ok Try.prog) (nd92 [1]) ⟨tm, g⟩ (en92 K) := by
  refine seq_i (a := nd92 [1, 0]) (b := nd92 [1, 1]) (k' := kj92_1  K) (by kernel_rfl) (fun st h => J92_1_ok  K st.tm st.g h) ?_
  refine seq_i (a := nd92 [1, 0, 0]) (b := nd92 [1, 0, 1]) (k' := kj92_2  K) (by kernel_rfl) (fun st h => J92_2_ok  K st.tm st.g h) ?_
  try unfold J92_0 at h
  unfold kj92_2
  generalize @J92_2 = Q92_2 at h ⊢
  unfold kj92_1
  generalize @J92_1 = Q92_1 at h ⊢
  refine code2_sound ok_mono _ _ _ ?_
  refine kmp ?_ h
  generalize Ok Try.prog = C
  unfold en92
  as_aux_lemma => kernel_rfl

noncomputable def F92 (x0 x1 : LV) (g : LHeap) (K : LV → LHeap → Prop) : Prop :=
  J92_0 x0 x1 g  K
theorem ok92 {x0 x1 : LV} {g : LHeap} {K : LV → LHeap → Prop} (h : g.Wf → (∀ v ∈ ([x0, x1] : List LV), ∀ b ∈ v.objs, b < g.next) → F92 x0 x1 g K) : Ok Try.prog 92 [x0, x1] g K := by
  refine ok_fw Try.mixed Try.func92 (by kernel_rfl) (by kernel_rfl) (c := nd92 []) (by kernel_rfl) fun wf lt => ?_
  rw [← en92_eq]
  replace h := h wf lt
  generalize hs : startL _ = tm
  replace h : F92 (tm 0) (tm 1) g K := by rw [← hs]; exact h
  refine seq_i (a := nd92 [0]) (b := nd92 [1]) (k' := kj92_0  K) (by kernel_rfl) (fun st h => J92_0_ok  K st.tm st.g h) ?_
  try unfold F92 at h
  unfold kj92_0
  generalize @J92_0 = Q92_0 at h ⊢
  refine code2_sound ok_mono _ _ _ ?_
  refine kmp ?_ h
  generalize Ok Try.prog = C
  unfold en92
  as_aux_lemma => kernel_rfl

end Go.Proofs.Ytgncgokjbakdmaa
