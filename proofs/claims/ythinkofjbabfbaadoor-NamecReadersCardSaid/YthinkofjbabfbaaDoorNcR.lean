/-
  Functions of the program, as texts of named values.
-/
import Derived.Test.YthinkofjbabfbaaDoorNc0
set_option linter.all false
namespace Go.Proofs.YthinkofjbabfbaaDoor
open Go.ChangeShapes Go.WideShapes Go.ChangeAt Go.RowKit Go.Lm
set_option maxRecDepth 1000000
set_option linter.unusedVariables false
/-! parapet/parapetlaw19.NamecReaders (107 slots) -/
noncomputable def en5 (K : LV → LHeap → Prop) : LEx → LSt → Prop := fun e st => match e with
  | .exit _ => False
  | _ => K (st.tm 2) st.g
theorem en5_eq (K : LV → LHeap → Prop) : en5 K = endL Tryd.prog Tryd.f5 K := by
  funext e st
  cases e <;> kernel_rfl
noncomputable def nd5 (p : List Nat) : Code := subC p (bodyC Tryd.prog 5)
noncomputable def J5_8 (x3 x8 x9 : LV) (g : LHeap)  (K : LV → LHeap → Prop) : Prop :=
  vK (binL Tryd.prog .eql 3 false x9 x8) fun t100 =>
  gd t100 true g (fun K => K x3 g) fun t102 g =>
  gd t100 true g (fun K => Ok Tryd.prog 25 [t102] g K) fun t103 g =>
  gd t100 true g (fun K => oK (builtinL Tryd.prog .len [38] [t103] g) K) fun t104 g =>
  gd t100 true g (fun K => vK (binL Tryd.prog .eql 3 true t104 (.int .i64 (0))) fun v => K v g) fun t105 g =>
  vK (pickL t100 t105 (.bool false)) fun t106 =>
  K t106 g
abbrev kj5_8  (K : LV → LHeap → Prop) : LSt → Prop := fun st => J5_8 (st.tm 3) (st.tm 8) (st.tm 9) st.g  K
theorem J5_8_ok  (K : LV → LHeap → Prop) (tm : Nat → LV) (g : LHeap) (h : J5_8 (tm 3) (tm 8) (tm 9) g  K) : codeL Tryd.prog (Ok Tryd.prog) (nd5 [1, 1, 1, 1, 1, 1, 1, 1, 1]) ⟨tm, g⟩ (en5 K) := by
  try unfold J5_8 at h
  refine code2_sound ok_mono _ _ _ ?_
  refine kmp ?_ h
  generalize Ok Tryd.prog = C
  try unfold en5
  as_aux_lemma => kernel_rfl

noncomputable def L5_10 (x3 x8 : LV) (x9 x10 : LV) (g : LHeap) (N10 : LV × LV → LHeap → Prop) (K : LV → LHeap → Prop) : Prop :=
  vK (binL Tryd.prog .lss 3 true x10 (.int .i64 (3))) fun t84 =>
  ifB t84 (
  Ok Tryd.prog 28 [x3, (.int .i64 (0))] g fun t88 g =>
  Ok Tryd.prog 28 [x3, (.int .i64 (1))] g fun t90 g =>
  Ok Tryd.prog 29 [x3] g fun t92 g =>
  Ok Tryd.prog 30 [x3] g fun t95 g =>
  oK (builtinL Tryd.prog .len [38] [t95] g) fun t96 g =>
  vK (binL Tryd.prog .add 3 false x9 t96) fun t97 =>
  vK (binL Tryd.prog .add 3 true x10 (.int .i64 (1))) fun t86 =>
  N10 (t97, t86) g) (
  J5_8 x3 x8 x9 g  K)
theorem L5_10_ok (R10 : LV × LV → LV × LV → LHeap → Prop) (K : LV → LHeap → Prop) (tm : Nat → LV) (g : LHeap) (h : L5_10 (tm 3) (tm 8) (tm 9) (tm 10) g (fun s g => R10 ((tm 3), (tm 8)) s g) K) : codeL Tryd.prog (Ok Tryd.prog) (nd5 [1, 1, 1, 1, 1, 1, 1, 1, 0, 1, 0, 0]) ⟨tm, g⟩ (roundK (fun tm : Nat → LV => (tm 3, tm 8)) (fun tm : Nat → LV => (tm 9, tm 10)) R10 (exitL 3 (thenL (kj5_8  K) (en5 K)))) := by
  try unfold L5_10 at h
  unfold kj5_8
  generalize @J5_8 = Q5_8 at h ⊢
  refine code2_sound ok_mono _ _ _ ?_
  refine kmp ?_ h
  generalize Ok Tryd.prog = C
  try unfold en5
  as_aux_lemma => kernel_rfl

noncomputable def J5_9 (x3 x8 x9 x10 : LV) (g : LHeap)  (K : LV → LHeap → Prop) : Prop :=
  loopP (fun s g N => L5_10 x3 x8 s.1 s.2 g N  K) (x9, x10) g
abbrev kj5_9  (K : LV → LHeap → Prop) : LSt → Prop := fun st => J5_9 (st.tm 3) (st.tm 8) (st.tm 9) (st.tm 10) st.g  K
theorem J5_9_ok  (K : LV → LHeap → Prop) (tm : Nat → LV) (g : LHeap) (h : J5_9 (tm 3) (tm 8) (tm 9) (tm 10) g  K) : codeL Tryd.prog (Ok Tryd.prog) (nd5 [1, 1, 1, 1, 1, 1, 1, 1, 0, 1]) ⟨tm, g⟩ (thenL (kj5_8  K) (en5 K)) := by
  refine block_i (b := nd5 [1, 1, 1, 1, 1, 1, 1, 1, 0, 1, 0]) (i := 3) (by kernel_rfl) ?_
  exact loop_glue (b := nd5 [1, 1, 1, 1, 1, 1, 1, 1, 0, 1, 0, 0]) (by kernel_rfl) (fun tm : Nat → LV => (tm 3, tm 8)) (fun tm : Nat → LV => (tm 9, tm 10)) (fun a s g N => L5_10 a.1 a.2 s.1 s.2 g N  K) (fun tm g R h => L5_10_ok R  K tm g h) tm g h

noncomputable def J5_7 (x3 x8 x9 : LV) (g : LHeap)  (K : LV → LHeap → Prop) : Prop :=
  J5_9 x3 x8 x9 (.int .i64 (0)) g  K
abbrev kj5_7  (K : LV → LHeap → Prop) : LSt → Prop := fun st => J5_7 (st.tm 3) (st.tm 8) (st.tm 9) st.g  K
theorem J5_7_ok  (K : LV → LHeap → Prop) (tm : Nat → LV) (g : LHeap) (h : J5_7 (tm 3) (tm 8) (tm 9) g  K) : codeL Tryd.prog (Ok Tryd.prog) (nd5 [1, 1, 1, 1, 1, 1, 1, 1]) ⟨tm, g⟩ (en5 K) := by
  refine seq_i (a := nd5 [1, 1, 1, 1, 1, 1, 1, 1, 0]) (b := nd5 [1, 1, 1, 1, 1, 1, 1, 1, 1]) (k' := kj5_8  K) (by kernel_rfl) (fun st h => J5_8_ok  K st.tm st.g h) ?_
  refine seq_i (a := nd5 [1, 1, 1, 1, 1, 1, 1, 1, 0, 0]) (b := nd5 [1, 1, 1, 1, 1, 1, 1, 1, 0, 1]) (k' := kj5_9  K) (by kernel_rfl) (fun st h => J5_9_ok  K st.tm st.g h) ?_
  try unfold J5_7 at h
  unfold kj5_9
  generalize @J5_9 = Q5_9 at h ⊢
  unfold kj5_8
  generalize @J5_8 = Q5_8 at h ⊢
  refine code2_sound ok_mono _ _ _ ?_
  refine kmp ?_ h
  generalize Ok Tryd.prog = C
  try unfold en5
  as_aux_lemma => kernel_rfl

noncomputable def J5_6 (x3 x8 : LV) (g : LHeap)  (K : LV → LHeap → Prop) : Prop :=
  J5_7 x3 x8 (.int .i64 (0)) g  K
abbrev kj5_6  (K : LV → LHeap → Prop) : LSt → Prop := fun st => J5_6 (st.tm 3) (st.tm 8) st.g  K
theorem J5_6_ok  (K : LV → LHeap → Prop) (tm : Nat → LV) (g : LHeap) (h : J5_6 (tm 3) (tm 8) g  K) : codeL Tryd.prog (Ok Tryd.prog) (nd5 [1, 1, 1, 1, 1, 1, 1]) ⟨tm, g⟩ (en5 K) := by
  refine seq_i (a := nd5 [1, 1, 1, 1, 1, 1, 1, 0]) (b := nd5 [1, 1, 1, 1, 1, 1, 1, 1]) (k' := kj5_7  K) (by kernel_rfl) (fun st h => J5_7_ok  K st.tm st.g h) ?_
  try unfold J5_6 at h
  unfold kj5_7
  generalize @J5_7 = Q5_7 at h ⊢
  refine code2_sound ok_mono _ _ _ ?_
  refine kmp ?_ h
  generalize Ok Tryd.prog = C
  try unfold en5
  as_aux_lemma => kernel_rfl

noncomputable def J5_5 (x3 x8 : LV) (g : LHeap)  (K : LV → LHeap → Prop) : Prop :=
  Ok Tryd.prog 31 [x3, (.int .i64 (0))] g fun t81 g =>
  vK (binL Tryd.prog .neq 23 true t81 (.int .i64 (0))) fun t82 =>
  ifB t82 (
  K (.bool false) g) (
  J5_6 x3 x8 g  K)
abbrev kj5_5  (K : LV → LHeap → Prop) : LSt → Prop := fun st => J5_5 (st.tm 3) (st.tm 8) st.g  K
theorem J5_5_ok  (K : LV → LHeap → Prop) (tm : Nat → LV) (g : LHeap) (h : J5_5 (tm 3) (tm 8) g  K) : codeL Tryd.prog (Ok Tryd.prog) (nd5 [1, 1, 1, 1, 1, 1]) ⟨tm, g⟩ (en5 K) := by
  refine seq_i (a := nd5 [1, 1, 1, 1, 1, 1, 0]) (b := nd5 [1, 1, 1, 1, 1, 1, 1]) (k' := kj5_6  K) (by kernel_rfl) (fun st h => J5_6_ok  K st.tm st.g h) ?_
  try unfold J5_5 at h
  unfold kj5_6
  generalize @J5_6 = Q5_6 at h ⊢
  refine code2_sound ok_mono _ _ _ ?_
  refine kmp ?_ h
  generalize Ok Tryd.prog = C
  try unfold en5
  as_aux_lemma => kernel_rfl

noncomputable def J5_4 (x3 : LV) (g : LHeap)  (K : LV → LHeap → Prop) : Prop :=
  Ok Tryd.prog 25 [x3] g fun t78 g =>
  oK (builtinL Tryd.prog .len [38] [t78] g) fun t79 g =>
  J5_5 x3 t79 g  K
abbrev kj5_4  (K : LV → LHeap → Prop) : LSt → Prop := fun st => J5_4 (st.tm 3) st.g  K
theorem J5_4_ok  (K : LV → LHeap → Prop) (tm : Nat → LV) (g : LHeap) (h : J5_4 (tm 3) g  K) : codeL Tryd.prog (Ok Tryd.prog) (nd5 [1, 1, 1, 1, 1]) ⟨tm, g⟩ (en5 K) := by
  refine seq_i (a := nd5 [1, 1, 1, 1, 1, 0]) (b := nd5 [1, 1, 1, 1, 1, 1]) (k' := kj5_5  K) (by kernel_rfl) (fun st h => J5_5_ok  K st.tm st.g h) ?_
  try unfold J5_4 at h
  unfold kj5_5
  generalize @J5_5 = Q5_5 at h ⊢
  refine code2_sound ok_mono _ _ _ ?_
  refine kmp ?_ h
  generalize Ok Tryd.prog = C
  try unfold en5
  as_aux_lemma => kernel_rfl

noncomputable def J5_14 (x0 x3 x5 x7 : LV) (g : LHeap) (N12 : LV → LHeap → Prop) (K : LV → LHeap → Prop) : Prop :=
  vK (binL Tryd.prog .add 3 true x7 (.int .i64 (1))) fun t40 =>
  N12 t40 g
abbrev kj5_14 (R12 : LV × LV × LV → LV → LHeap → Prop) (K : LV → LHeap → Prop) : LSt → Prop := fun st => J5_14 (st.tm 0) (st.tm 3) (st.tm 5) (st.tm 7) st.g (fun s g => R12 ((st.tm 0), (st.tm 3), (st.tm 5)) s g) K
theorem J5_14_ok (R12 : LV × LV × LV → LV → LHeap → Prop) (K : LV → LHeap → Prop) (tm : Nat → LV) (g : LHeap) (h : J5_14 (tm 0) (tm 3) (tm 5) (tm 7) g (fun s g => R12 ((tm 0), (tm 3), (tm 5)) s g) K) : codeL Tryd.prog (Ok Tryd.prog) (nd5 [1, 1, 1, 1, 0, 1, 0, 0, 1, 1]) ⟨tm, g⟩ (roundK (fun tm : Nat → LV => (tm 0, tm 3, tm 5)) (fun tm : Nat → LV => tm 7) R12 (exitL 0 (thenL (kj5_4  K) (en5 K)))) := by
  try unfold J5_14 at h
  unfold kj5_4
  generalize @J5_4 = Q5_4 at h ⊢
  refine code2_sound ok_mono _ _ _ ?_
  refine kmp ?_ h
  generalize Ok Tryd.prog = C
  try unfold en5
  as_aux_lemma => kernel_rfl

noncomputable def J5_15 (x0 x3 x5 x7 : LV) (g : LHeap) (N12 : LV → LHeap → Prop) (K : LV → LHeap → Prop) : Prop :=
  Ok Tryd.prog 28 [x3, (.int .i64 (1))] g fun t70 g =>
  Ok Tryd.prog 29 [x3] g fun t72 g =>
  Ok Tryd.prog 30 [x3] g fun t74 g =>
  oK (builtinL Tryd.prog .len [38] [t74] g) fun t75 g =>
  vK (binL Tryd.prog .neq 3 true t75 (.int .i64 (0))) fun t76 =>
  ifB t76 (
  K (.bool false) g) (
  J5_14 x0 x3 x5 x7 g N12 K)
abbrev kj5_15 (R12 : LV × LV × LV → LV → LHeap → Prop) (K : LV → LHeap → Prop) : LSt → Prop := fun st => J5_15 (st.tm 0) (st.tm 3) (st.tm 5) (st.tm 7) st.g (fun s g => R12 ((st.tm 0), (st.tm 3), (st.tm 5)) s g) K
theorem J5_15_ok (R12 : LV × LV × LV → LV → LHeap → Prop) (K : LV → LHeap → Prop) (tm : Nat → LV) (g : LHeap) (h : J5_15 (tm 0) (tm 3) (tm 5) (tm 7) g (fun s g => R12 ((tm 0), (tm 3), (tm 5)) s g) K) : codeL Tryd.prog (Ok Tryd.prog) (nd5 [1, 1, 1, 1, 0, 1, 0, 0, 1, 0, 0, 1]) ⟨tm, g⟩ (exitL 1 (thenL (kj5_14 R12 K) (roundK (fun tm : Nat → LV => (tm 0, tm 3, tm 5)) (fun tm : Nat → LV => tm 7) R12 (exitL 0 (thenL (kj5_4  K) (en5 K)))))) := by
  try unfold J5_15 at h
  unfold kj5_14
  generalize @J5_14 = Q5_14 at h ⊢
  unfold kj5_4
  generalize @J5_4 = Q5_4 at h ⊢
  refine code2_sound ok_mono _ _ _ ?_
  refine kmp ?_ h
  generalize Ok Tryd.prog = C
  try unfold en5
  as_aux_lemma => kernel_rfl

noncomputable def J5_13 (x0 x3 x5 x7 : LV) (g : LHeap) (N12 : LV → LHeap → Prop) (K : LV → LHeap → Prop) : Prop :=
  vK (ixAddrL none 4 x0 x7) fun t43 =>
  vK (fieldAddrL 0 t43) fun t44 =>
  vK (loadV none t44 g) fun t45 =>
  vK (binL Tryd.prog .eql 3 true t45 (.int .i64 (2))) fun t47 =>
  ifB t47 (
  vK (ixAddrL none 4 x0 x7) fun t51 =>
  vK (fieldAddrL 1 t51) fun t52 =>
  vK (loadV (some 2) t52 g) fun t53 =>
  vK (ixAddrL none 4 x0 x7) fun t56 =>
  vK (fieldAddrL 3 t56) fun t57 =>
  vK (loadV none t57 g) fun t58 =>
  ((Ok Tryd.prog 19 [x5, t53, t58] g fun t59 g =>
  
  J5_15 x0 x3 x5 x7 g N12 K) ∧ True)) (
  vK (binL Tryd.prog .eql 3 true t45 (.int .i64 (3))) fun t61 =>
  ifB t61 (
  vK (ixAddrL none 4 x0 x7) fun t65 =>
  vK (fieldAddrL 1 t65) fun t66 =>
  vK (loadV (some 2) t66 g) fun t67 =>
  Ok Tryd.prog 21 [x5, t67] g fun t68 g =>
  J5_15 x0 x3 x5 x7 g N12 K) (
  J5_15 x0 x3 x5 x7 g N12 K))
abbrev kj5_13 (R12 : LV × LV × LV → LV → LHeap → Prop) (K : LV → LHeap → Prop) : LSt → Prop := fun st => J5_13 (st.tm 0) (st.tm 3) (st.tm 5) (st.tm 7) st.g (fun s g => R12 ((st.tm 0), (st.tm 3), (st.tm 5)) s g) K
theorem J5_13_ok (R12 : LV × LV × LV → LV → LHeap → Prop) (K : LV → LHeap → Prop) (tm : Nat → LV) (g : LHeap) (h : J5_13 (tm 0) (tm 3) (tm 5) (tm 7) g (fun s g => R12 ((tm 0), (tm 3), (tm 5)) s g) K) : codeL Tryd.prog (Ok Tryd.prog) (nd5 [1, 1, 1, 1, 0, 1, 0, 0, 1]) ⟨tm, g⟩ (roundK (fun tm : Nat → LV => (tm 0, tm 3, tm 5)) (fun tm : Nat → LV => tm 7) R12 (exitL 0 (thenL (kj5_4  K) (en5 K)))) := by
  refine seq_i (a := nd5 [1, 1, 1, 1, 0, 1, 0, 0, 1, 0]) (b := nd5 [1, 1, 1, 1, 0, 1, 0, 0, 1, 1]) (k' := kj5_14 R12 K) (by kernel_rfl) (fun st h => J5_14_ok R12 K st.tm st.g h) ?_
  refine block_i (b := nd5 [1, 1, 1, 1, 0, 1, 0, 0, 1, 0, 0]) (i := 1) (by kernel_rfl) ?_
  refine seq_i (a := nd5 [1, 1, 1, 1, 0, 1, 0, 0, 1, 0, 0, 0]) (b := nd5 [1, 1, 1, 1, 0, 1, 0, 0, 1, 0, 0, 1]) (k' := kj5_15 R12 K) (by kernel_rfl) (fun st h => J5_15_ok R12 K st.tm st.g h) ?_
  try unfold J5_13 at h
  unfold kj5_15
  generalize @J5_15 = Q5_15 at h ⊢
  unfold kj5_14
  generalize @J5_14 = Q5_14 at h ⊢
  unfold kj5_4
  generalize @J5_4 = Q5_4 at h ⊢
  refine code2_sound ok_mono _ _ _ ?_
  refine kmp ?_ h
  generalize Ok Tryd.prog = C
  try unfold en5
  as_aux_lemma => kernel_rfl

noncomputable def L5_12 (x0 x3 x5 : LV) (x7 : LV) (g : LHeap) (N12 : LV → LHeap → Prop) (K : LV → LHeap → Prop) : Prop :=
  oK (builtinL Tryd.prog .len [29] [x0] g) fun t37 g =>
  vK (binL Tryd.prog .lss 3 false x7 t37) fun t38 =>
  ifB t38 (
  J5_13 x0 x3 x5 x7 g N12 K) (
  J5_4 x3 g  K)
theorem L5_12_ok (R12 : LV × LV × LV → LV → LHeap → Prop) (K : LV → LHeap → Prop) (tm : Nat → LV) (g : LHeap) (h : L5_12 (tm 0) (tm 3) (tm 5) (tm 7) g (fun s g => R12 ((tm 0), (tm 3), (tm 5)) s g) K) : codeL Tryd.prog (Ok Tryd.prog) (nd5 [1, 1, 1, 1, 0, 1, 0, 0]) ⟨tm, g⟩ (roundK (fun tm : Nat → LV => (tm 0, tm 3, tm 5)) (fun tm : Nat → LV => tm 7) R12 (exitL 0 (thenL (kj5_4  K) (en5 K)))) := by
  refine seq_i (a := nd5 [1, 1, 1, 1, 0, 1, 0, 0, 0]) (b := nd5 [1, 1, 1, 1, 0, 1, 0, 0, 1]) (k' := kj5_13 R12 K) (by kernel_rfl) (fun st h => J5_13_ok R12 K st.tm st.g h) ?_
  try unfold L5_12 at h
  unfold kj5_13
  generalize @J5_13 = Q5_13 at h ⊢
  unfold kj5_4
  generalize @J5_4 = Q5_4 at h ⊢
  refine code2_sound ok_mono _ _ _ ?_
  refine kmp ?_ h
  generalize Ok Tryd.prog = C
  try unfold en5
  as_aux_lemma => kernel_rfl

noncomputable def J5_11 (x0 x3 x5 x7 : LV) (g : LHeap)  (K : LV → LHeap → Prop) : Prop :=
  loopP (fun s g N => L5_12 x0 x3 x5 s g N  K) x7 g
abbrev kj5_11  (K : LV → LHeap → Prop) : LSt → Prop := fun st => J5_11 (st.tm 0) (st.tm 3) (st.tm 5) (st.tm 7) st.g  K
theorem J5_11_ok  (K : LV → LHeap → Prop) (tm : Nat → LV) (g : LHeap) (h : J5_11 (tm 0) (tm 3) (tm 5) (tm 7) g  K) : codeL Tryd.prog (Ok Tryd.prog) (nd5 [1, 1, 1, 1, 0, 1]) ⟨tm, g⟩ (thenL (kj5_4  K) (en5 K)) := by
  refine block_i (b := nd5 [1, 1, 1, 1, 0, 1, 0]) (i := 0) (by kernel_rfl) ?_
  exact loop_glue (b := nd5 [1, 1, 1, 1, 0, 1, 0, 0]) (by kernel_rfl) (fun tm : Nat → LV => (tm 0, tm 3, tm 5)) (fun tm : Nat → LV => tm 7) (fun a s g N => L5_12 a.1 a.2.1 a.2.2 s g N  K) (fun tm g R h => L5_12_ok R  K tm g h) tm g h

noncomputable def J5_3 (x0 x3 x5 : LV) (g : LHeap)  (K : LV → LHeap → Prop) : Prop :=
  J5_11 x0 x3 x5 (.int .i64 (0)) g  K
abbrev kj5_3  (K : LV → LHeap → Prop) : LSt → Prop := fun st => J5_3 (st.tm 0) (st.tm 3) (st.tm 5) st.g  K
theorem J5_3_ok  (K : LV → LHeap → Prop) (tm : Nat → LV) (g : LHeap) (h : J5_3 (tm 0) (tm 3) (tm 5) g  K) : codeL Tryd.prog (Ok Tryd.prog) (nd5 [1, 1, 1, 1]) ⟨tm, g⟩ (en5 K) := by
  refine seq_i (a := nd5 [1, 1, 1, 1, 0]) (b := nd5 [1, 1, 1, 1, 1]) (k' := kj5_4  K) (by kernel_rfl) (fun st h => J5_4_ok  K st.tm st.g h) ?_
  refine seq_i (a := nd5 [1, 1, 1, 1, 0, 0]) (b := nd5 [1, 1, 1, 1, 0, 1]) (k' := kj5_11  K) (by kernel_rfl) (fun st h => J5_11_ok  K st.tm st.g h) ?_
  try unfold J5_3 at h
  unfold kj5_11
  generalize @J5_11 = Q5_11 at h ⊢
  unfold kj5_4
  generalize @J5_4 = Q5_4 at h ⊢
  refine code2_sound ok_mono _ _ _ ?_
  refine kmp ?_ h
  generalize Ok Tryd.prog = C
  try unfold en5
  as_aux_lemma => kernel_rfl

noncomputable def J5_2 (x0 x3 x5 x6 : LV) (g : LHeap)  (K : LV → LHeap → Prop) : Prop :=
  vK (binL Tryd.prog .neq 23 true x6 (.int .i64 (0))) fun t21 =>
  gd t21 false g (fun K => K x5 g) fun t23 g =>
  gd t21 false g (fun K => vK (binL Tryd.prog .eql 33 true t23 .nilp) fun v => K v g) fun t24 g =>
  vK (pickL t21 (.bool true) t24) fun t25 =>
  gd t25 false g (fun K => Ok Tryd.prog 13 [] g K) fun t27 g =>
  gd t25 false g (fun K => vK (unL .not t27) fun v => K v g) fun t28 g =>
  vK (pickL t25 (.bool true) t28) fun t29 =>
  gd t29 false g (fun K => K x3 g) fun t31 g =>
  gd t29 false g (fun K => Ok Tryd.prog 27 [t31, (.int .i64 (0))] g K) fun t32 g =>
  gd t29 false g (fun K => vK (binL Tryd.prog .neq 23 true t32 (.int .i64 (0))) fun v => K v g) fun t33 g =>
  vK (pickL t29 (.bool true) t33) fun t34 =>
  ifB t34 (
  K (.bool false) g) (
  J5_3 x0 x3 x5 g  K)
abbrev kj5_2  (K : LV → LHeap → Prop) : LSt → Prop := fun st => J5_2 (st.tm 0) (st.tm 3) (st.tm 5) (st.tm 6) st.g  K
theorem J5_2_ok  (K : LV → LHeap → Prop) (tm : Nat → LV) (g : LHeap) (h : J5_2 (tm 0) (tm 3) (tm 5) (tm 6) g  K) : codeL Tryd.prog (Ok Tryd.prog) (nd5 [1, 1, 1]) ⟨tm, g⟩ (en5 K) := by
  refine seq_i (a := nd5 [1, 1, 1, 0]) (b := nd5 [1, 1, 1, 1]) (k' := kj5_3  K) (by kernel_rfl) (fun st h => J5_3_ok  K st.tm st.g h) ?_
  try unfold J5_2 at h
  unfold kj5_3
  generalize @J5_3 = Q5_3 at h ⊢
  refine code2_sound ok_mono _ _ _ ?_
  refine kmp ?_ h
  generalize Ok Tryd.prog = C
  try unfold en5
  as_aux_lemma => kernel_rfl

noncomputable def J5_1 (x0 x3 : LV) (g : LHeap)  (K : LV → LHeap → Prop) : Prop :=
  Ok Tryd.prog 16 [x3, (.int .i64 (3))] g fun t17 g =>
  vK (extractL t17 0) fun t18 =>
  vK (extractL t17 1) fun t19 =>
  J5_2 x0 x3 t18 t19 g  K
abbrev kj5_1  (K : LV → LHeap → Prop) : LSt → Prop := fun st => J5_1 (st.tm 0) (st.tm 3) st.g  K
theorem J5_1_ok  (K : LV → LHeap → Prop) (tm : Nat → LV) (g : LHeap) (h : J5_1 (tm 0) (tm 3) g  K) : codeL Tryd.prog (Ok Tryd.prog) (nd5 [1, 1]) ⟨tm, g⟩ (en5 K) := by
  refine seq_i (a := nd5 [1, 1, 0]) (b := nd5 [1, 1, 1]) (k' := kj5_2  K) (by kernel_rfl) (fun st h => J5_2_ok  K st.tm st.g h) ?_
  try unfold J5_1 at h
  unfold kj5_2
  generalize @J5_2 = Q5_2 at h ⊢
  refine code2_sound ok_mono _ _ _ ?_
  refine kmp ?_ h
  generalize Ok Tryd.prog = C
  try unfold en5
  as_aux_lemma => kernel_rfl

noncomputable def J5_0 (x0 : LV) (g : LHeap)  (K : LV → LHeap → Prop) : Prop :=
  Ok Tryd.prog 15 [(.int .i64 (2))] g fun t12 g =>
  vK (extractL t12 0) fun t13 =>
  vK (extractL t12 1) fun t14 =>
  J5_1 x0 t13 g  K
abbrev kj5_0  (K : LV → LHeap → Prop) : LSt → Prop := fun st => J5_0 (st.tm 0) st.g  K
theorem J5_0_ok  (K : LV → LHeap → Prop) (tm : Nat → LV) (g : LHeap) (h : J5_0 (tm 0) g  K) : codeL Tryd.prog (Ok Tryd.prog) (nd5 [1]) ⟨tm, g⟩ (en5 K) := by
  refine seq_i (a := nd5 [1, 0]) (b := nd5 [1, 1]) (k' := kj5_1  K) (by kernel_rfl) (fun st h => J5_1_ok  K st.tm st.g h) ?_
  try unfold J5_0 at h
  unfold kj5_1
  generalize @J5_1 = Q5_1 at h ⊢
  refine code2_sound ok_mono _ _ _ ?_
  refine kmp ?_ h
  generalize Ok Tryd.prog = C
  try unfold en5
  as_aux_lemma => kernel_rfl

noncomputable def F5 (x0 : LV) (g : LHeap) (K : LV → LHeap → Prop) : Prop :=
  J5_0 x0 g  K
theorem ok5 {x0 : LV} {g : LHeap} {K : LV → LHeap → Prop} (h : g.Wf → (∀ v ∈ ([x0] : List LV), ∀ b ∈ v.objs, b < g.next) → F5 x0 g K) : Ok Tryd.prog 5 [x0] g K := by
  refine ok_fw Tryd.mixed Tryd.func5 (by kernel_rfl) (by kernel_rfl) (c := nd5 []) (by kernel_rfl) fun wf lt => ?_
  rw [← en5_eq]
  replace h := h wf lt
  generalize hs : startL _ = tm
  replace h : F5 (tm 0) g K := by rw [← hs]; exact h
  refine seq_i (a := nd5 [0]) (b := nd5 [1]) (k' := kj5_0  K) (by kernel_rfl) (fun st h => J5_0_ok  K st.tm st.g h) ?_
  try unfold F5 at h
  unfold kj5_0
  generalize @J5_0 = Q5_0 at h ⊢
  refine code2_sound ok_mono _ _ _ ?_
  refine kmp ?_ h
  generalize Ok Tryd.prog = C
  try unfold en5
  as_aux_lemma => kernel_rfl

/-! (*parapet/rcu.Domain).Enter (32 slots) -/
noncomputable def en27 (K : LV → LHeap → Prop) : LEx → LSt → Prop := fun e st => match e with
  | .exit _ => False
  | _ => K (st.tm 4) st.g
theorem en27_eq (K : LV → LHeap → Prop) : en27 K = endL Tryd.prog Tryd.f27 K := by
  funext e st
  cases e <;> kernel_rfl
noncomputable def nd27 (p : List Nat) : Code := subC p (bodyC Tryd.prog 27)
noncomputable def F27 (x0 x1 : LV) (g : LHeap) (K : LV → LHeap → Prop) : Prop :=
  Ok Tryd.prog 61 [x0] g fun t7 g =>
  vK (unL .not t7) fun t8 =>
  ifB t8 (
  K (.int .i64 (6)) g) (
  Ok Tryd.prog 63 [x0, x1] g fun t12 g =>
  vK (unL .not t12) fun t13 =>
  ifB t13 (
  K (.int .i64 (1)) g) (
  vK (nilCheckL x0) fun t16 =>
  vK (fieldAddrL 0 t16) fun t17 =>
  vK (loadV none t17 g) fun t18 =>
  vK (ixAddrL none 1 t18 x1) fun t20 =>
  vK (loadV none t20 g) fun t21 =>
  vK (binL Tryd.prog .geq 3 true t21 (.int .i64 (16))) fun t22 =>
  ifB t22 (
  K (.int .i64 (2)) g) (
  vK (nilCheckL x0) fun t24 =>
  vK (fieldAddrL 0 t24) fun t25 =>
  vK (loadV none t25 g) fun t26 =>
  vK (ixAddrL none 1 t26 x1) fun t28 =>
  vK (loadV none t28 g) fun t29 =>
  vK (binL Tryd.prog .add 3 true t29 (.int .i64 (1))) fun t30 =>
  vK (ixAddrL none 1 t26 x1) fun t31 =>
  gK (storeV 1 t31 t30 g) fun g =>
  K (.int .i64 (0)) g)))
theorem ok27 {x0 x1 : LV} {g : LHeap} {K : LV → LHeap → Prop} (h : g.Wf → (∀ v ∈ ([x0, x1] : List LV), ∀ b ∈ v.objs, b < g.next) → F27 x0 x1 g K) : Ok Tryd.prog 27 [x0, x1] g K := by
  refine ok_fw Tryd.mixed Tryd.func27 (by kernel_rfl) (by kernel_rfl) (c := nd27 []) (by kernel_rfl) fun wf lt => ?_
  rw [← en27_eq]
  replace h := h wf lt
  generalize hs : startL _ = tm
  replace h : F27 (tm 0) (tm 1) g K := by rw [← hs]; exact h
  try unfold F27 at h
  refine code2_sound ok_mono _ _ _ ?_
  refine kmp ?_ h
  generalize Ok Tryd.prog = C
  try unfold en27
  as_aux_lemma => kernel_rfl

/-! (*parapet/rcu.Domain).Pass (25 slots) -/
noncomputable def en28 (K : LV → LHeap → Prop) : LEx → LSt → Prop := fun e st => match e with
  | .exit _ => False
  | _ => K (st.tm 4) st.g
theorem en28_eq (K : LV → LHeap → Prop) : en28 K = endL Tryd.prog Tryd.f28 K := by
  funext e st
  cases e <;> kernel_rfl
noncomputable def nd28 (p : List Nat) : Code := subC p (bodyC Tryd.prog 28)
noncomputable def F28 (x0 x1 : LV) (g : LHeap) (K : LV → LHeap → Prop) : Prop :=
  Ok Tryd.prog 63 [x0, x1] g fun t7 g =>
  vK (unL .not t7) fun t8 =>
  gd t8 false g (fun K => K x0 g) fun t10 g =>
  gd t8 false g (fun K => vK (nilCheckL t10) fun v => K v g) fun t11 g =>
  gd t8 false g (fun K => vK (fieldAddrL 0 t11) fun v => K v g) fun t12 g =>
  gd t8 false g (fun K => vK (loadV none t12 g) fun v => K v g) fun t13 g =>
  gd t8 false g (fun K => K x1 g) fun t14 g =>
  gd t8 false g (fun K => vK (ixAddrL none 1 t13 t14) fun v => K v g) fun t15 g =>
  gd t8 false g (fun K => vK (loadV none t15 g) fun v => K v g) fun t16 g =>
  gd t8 false g (fun K => vK (binL Tryd.prog .gtr 3 true t16 (.int .i64 (0))) fun v => K v g) fun t17 g =>
  vK (pickL t8 (.bool true) t17) fun t18 =>
  ifB t18 (
  K (.bool false) g) (
  vK (nilCheckL x0) fun t20 =>
  vK (fieldAddrL 1 t20) fun t21 =>
  vK (loadV none t21 g) fun t22 =>
  vK (ixAddrL none 1 t22 x1) fun t24 =>
  gK (storeV 1 t24 (.bool true) g) fun g =>
  K (.bool true) g)
theorem ok28 {x0 x1 : LV} {g : LHeap} {K : LV → LHeap → Prop} (h : g.Wf → (∀ v ∈ ([x0, x1] : List LV), ∀ b ∈ v.objs, b < g.next) → F28 x0 x1 g K) : Ok Tryd.prog 28 [x0, x1] g K := by
  refine ok_fw Tryd.mixed Tryd.func28 (by kernel_rfl) (by kernel_rfl) (c := nd28 []) (by kernel_rfl) fun wf lt => ?_
  rw [← en28_eq]
  replace h := h wf lt
  generalize hs : startL _ = tm
  replace h : F28 (tm 0) (tm 1) g K := by rw [← hs]; exact h
  try unfold F28 at h
  refine code2_sound ok_mono _ _ _ ?_
  refine kmp ?_ h
  generalize Ok Tryd.prog = C
  try unfold en28
  as_aux_lemma => kernel_rfl

/-! (*parapet/rcu.Domain).Step (24 slots) -/
noncomputable def en29 (K : LV → LHeap → Prop) : LEx → LSt → Prop := fun e st => match e with
  | .exit _ => False
  | _ => K (st.tm 2) st.g
theorem en29_eq (K : LV → LHeap → Prop) : en29 K = endL Tryd.prog Tryd.f29 K := by
  funext e st
  cases e <;> kernel_rfl
noncomputable def nd29 (p : List Nat) : Code := subC p (bodyC Tryd.prog 29)
noncomputable def F29 (x0 : LV) (g : LHeap) (K : LV → LHeap → Prop) : Prop :=
  Ok Tryd.prog 61 [x0] g fun t4 g =>
  vK (unL .not t4) fun t5 =>
  gd t5 false g (fun K => K x0 g) fun t7 g =>
  gd t5 false g (fun K => vK (nilCheckL t7) fun v => K v g) fun t8 g =>
  gd t5 false g (fun K => vK (fieldAddrL 1 t8) fun v => K v g) fun t9 g =>
  gd t5 false g (fun K => vK (loadV none t9 g) fun v => K v g) fun t10 g =>
  gd t5 false g (fun K => Ok Tryd.prog 64 [t10, (.bool false)] g K) fun t11 g =>
  vK (pickL t5 (.bool true) t11) fun t12 =>
  ifB t12 (
  K (.bool false) g) (
  vK (nilCheckL x0) fun t14 =>
  vK (fieldAddrL 2 t14) fun t15 =>
  vK (loadV none t15 g) fun t16 =>
  vK (binL Tryd.prog .add 3 true t16 (.int .i64 (1))) fun t17 =>
  vK (nilCheckL x0) fun t18 =>
  vK (fieldAddrL 2 t18) fun t19 =>
  gK (storeV 1 t19 t17 g) fun g =>
  vK (nilCheckL x0) fun t21 =>
  vK (fieldAddrL 1 t21) fun t22 =>
  vK (loadV none t22 g) fun t23 =>
  oK (builtinL Tryd.prog .clear [106] [t23] g) fun u g =>
  K (.bool true) g)
theorem ok29 {x0 : LV} {g : LHeap} {K : LV → LHeap → Prop} (h : g.Wf → (∀ v ∈ ([x0] : List LV), ∀ b ∈ v.objs, b < g.next) → F29 x0 g K) : Ok Tryd.prog 29 [x0] g K := by
  refine ok_fw Tryd.mixed Tryd.func29 (by kernel_rfl) (by kernel_rfl) (c := nd29 []) (by kernel_rfl) fun wf lt => ?_
  rw [← en29_eq]
  replace h := h wf lt
  generalize hs : startL _ = tm
  replace h : F29 (tm 0) g K := by rw [← hs]; exact h
  try unfold F29 at h
  refine code2_sound ok_mono _ _ _ ?_
  refine kmp ?_ h
  generalize Ok Tryd.prog = C
  try unfold en29
  as_aux_lemma => kernel_rfl

/-! (*parapet/rcu.Domain).Ready (42 slots) -/
noncomputable def en30 (K : LV → LHeap → Prop) : LEx → LSt → Prop := fun e st => match e with
  | .exit _ => False
  | _ => K (st.tm 2) st.g
theorem en30_eq (K : LV → LHeap → Prop) : en30 K = endL Tryd.prog Tryd.f30 K := by
  funext e st
  cases e <;> kernel_rfl
noncomputable def nd30 (p : List Nat) : Code := subC p (bodyC Tryd.prog 30)
noncomputable def J30_4 (x0 x3 x4 : LV) (g : LHeap)  (K : LV → LHeap → Prop) : Prop :=
  vK (nilCheckL x0) fun t39 =>
  vK (fieldAddrL 3 t39) fun t40 =>
  gK (storeV 1 t40 x4 g) fun g =>
  K x3 g
abbrev kj30_4  (K : LV → LHeap → Prop) : LSt → Prop := fun st => J30_4 (st.tm 0) (st.tm 3) (st.tm 4) st.g  K
theorem J30_4_ok  (K : LV → LHeap → Prop) (tm : Nat → LV) (g : LHeap) (h : J30_4 (tm 0) (tm 3) (tm 4) g  K) : codeL Tryd.prog (Ok Tryd.prog) (nd30 [1, 1, 1, 1, 1]) ⟨tm, g⟩ (en30 K) := by
  try unfold J30_4 at h
  refine code2_sound ok_mono _ _ _ ?_
  refine kmp ?_ h
  generalize Ok Tryd.prog = C
  try unfold en30
  as_aux_lemma => kernel_rfl

noncomputable def L30_6 (x0 x13 x14 : LV) (x3 x4 x15 : LV) (g : LHeap) (N6 : LV × LV × LV → LHeap → Prop) (K : LV → LHeap → Prop) : Prop :=
  vK (binL Tryd.prog .lss 3 false x15 x14) fun t16 =>
  ifB t16 (
  vK (ixAddrL none 2 x13 x15) fun t17 =>
  vK (loadV (some 2) t17 g) fun t18 =>
  oK (newL (.agg [(.int .i64 (0)), (.int .i64 (0))]) g) fun t6 g =>
  gK (storeV 2 t6 t18 g) fun g =>
  vK (nilCheckL x0) fun t20 =>
  vK (fieldAddrL 2 t20) fun t21 =>
  vK (loadV none t21 g) fun t22 =>
  vK (fieldAddrL 1 t6) fun t23 =>
  vK (loadV none t23 g) fun t24 =>
  vK (binL Tryd.prog .add 3 true t24 (.int .i64 (2))) fun t25 =>
  vK (binL Tryd.prog .geq 3 false t22 t25) fun t26 =>
  ifB t26 (
  vK (fieldAddrL 0 t6) fun t28 =>
  vK (loadV none t28 g) fun t29 =>
  oK (buildSliceL Tryd.prog 38 1 [(0, t29)] g) fun t30 g =>
  oK (builtinL Tryd.prog .append [38, 38] [x3, t30] g) fun t31 g =>
  vK (binL Tryd.prog .add 3 true x15 (.int .i64 (1))) fun t36 =>
  N6 (t31, x4, t36) g) (
  vK (loadV (some 2) t6 g) fun t33 =>
  oK (buildSliceL Tryd.prog 107 1 [(0, t33)] g) fun t34 g =>
  oK (builtinL Tryd.prog .append [107, 107] [x4, t34] g) fun t35 g =>
  vK (binL Tryd.prog .add 3 true x15 (.int .i64 (1))) fun t36 =>
  N6 (x3, t35, t36) g)) (
  J30_4 x0 x3 x4 g  K)
theorem L30_6_ok (R6 : LV × LV × LV → LV × LV × LV → LHeap → Prop) (K : LV → LHeap → Prop) (tm : Nat → LV) (g : LHeap) (h : L30_6 (tm 0) (tm 13) (tm 14) (tm 3) (tm 4) (tm 15) g (fun s g => R6 ((tm 0), (tm 13), (tm 14)) s g) K) : codeL Tryd.prog (Ok Tryd.prog) (nd30 [1, 1, 1, 1, 0, 1, 0, 0]) ⟨tm, g⟩ (roundK (fun tm : Nat → LV => (tm 0, tm 13, tm 14)) (fun tm : Nat → LV => (tm 3, tm 4, tm 15)) R6 (exitL 0 (thenL (kj30_4  K) (en30 K)))) := by
  try unfold L30_6 at h
  unfold kj30_4
  generalize @J30_4 = Q30_4 at h ⊢
  refine code2_sound ok_mono _ _ _ ?_
  refine kmp ?_ h
  generalize Ok Tryd.prog = C
  try unfold en30
  as_aux_lemma => kernel_rfl

noncomputable def J30_5 (x0 x3 x4 x13 x14 x15 : LV) (g : LHeap)  (K : LV → LHeap → Prop) : Prop :=
  loopP (fun s g N => L30_6 x0 x13 x14 s.1 s.2.1 s.2.2 g N  K) (x3, x4, x15) g
abbrev kj30_5  (K : LV → LHeap → Prop) : LSt → Prop := fun st => J30_5 (st.tm 0) (st.tm 3) (st.tm 4) (st.tm 13) (st.tm 14) (st.tm 15) st.g  K
theorem J30_5_ok  (K : LV → LHeap → Prop) (tm : Nat → LV) (g : LHeap) (h : J30_5 (tm 0) (tm 3) (tm 4) (tm 13) (tm 14) (tm 15) g  K) : codeL Tryd.prog (Ok Tryd.prog) (nd30 [1, 1, 1, 1, 0, 1]) ⟨tm, g⟩ (thenL (kj30_4  K) (en30 K)) := by
  refine block_i (b := nd30 [1, 1, 1, 1, 0, 1, 0]) (i := 0) (by kernel_rfl) ?_
  exact loop_glue (b := nd30 [1, 1, 1, 1, 0, 1, 0, 0]) (by kernel_rfl) (fun tm : Nat → LV => (tm 0, tm 13, tm 14)) (fun tm : Nat → LV => (tm 3, tm 4, tm 15)) (fun a s g N => L30_6 a.1 a.2.1 a.2.2 s.1 s.2.1 s.2.2 g N  K) (fun tm g R h => L30_6_ok R  K tm g h) tm g h

noncomputable def J30_3 (x0 x3 x4 : LV) (g : LHeap)  (K : LV → LHeap → Prop) : Prop :=
  vK (nilCheckL x0) fun t11 =>
  vK (fieldAddrL 3 t11) fun t12 =>
  vK (loadV none t12 g) fun t13 =>
  oK (builtinL Tryd.prog .len [107] [t13] g) fun t14 g =>
  J30_5 x0 x3 x4 t13 t14 (.int .i64 (0)) g  K
abbrev kj30_3  (K : LV → LHeap → Prop) : LSt → Prop := fun st => J30_3 (st.tm 0) (st.tm 3) (st.tm 4) st.g  K
theorem J30_3_ok  (K : LV → LHeap → Prop) (tm : Nat → LV) (g : LHeap) (h : J30_3 (tm 0) (tm 3) (tm 4) g  K) : codeL Tryd.prog (Ok Tryd.prog) (nd30 [1, 1, 1, 1]) ⟨tm, g⟩ (en30 K) := by
  refine seq_i (a := nd30 [1, 1, 1, 1, 0]) (b := nd30 [1, 1, 1, 1, 1]) (k' := kj30_4  K) (by kernel_rfl) (fun st h => J30_4_ok  K st.tm st.g h) ?_
  refine seq_i (a := nd30 [1, 1, 1, 1, 0, 0]) (b := nd30 [1, 1, 1, 1, 0, 1]) (k' := kj30_5  K) (by kernel_rfl) (fun st h => J30_5_ok  K st.tm st.g h) ?_
  try unfold J30_3 at h
  unfold kj30_5
  generalize @J30_5 = Q30_5 at h ⊢
  unfold kj30_4
  generalize @J30_4 = Q30_4 at h ⊢
  refine code2_sound ok_mono _ _ _ ?_
  refine kmp ?_ h
  generalize Ok Tryd.prog = C
  try unfold en30
  as_aux_lemma => kernel_rfl

noncomputable def J30_2 (x0 x3 : LV) (g : LHeap)  (K : LV → LHeap → Prop) : Prop :=
  J30_3 x0 x3 .nils g  K
abbrev kj30_2  (K : LV → LHeap → Prop) : LSt → Prop := fun st => J30_2 (st.tm 0) (st.tm 3) st.g  K
theorem J30_2_ok  (K : LV → LHeap → Prop) (tm : Nat → LV) (g : LHeap) (h : J30_2 (tm 0) (tm 3) g  K) : codeL Tryd.prog (Ok Tryd.prog) (nd30 [1, 1, 1]) ⟨tm, g⟩ (en30 K) := by
  refine seq_i (a := nd30 [1, 1, 1, 0]) (b := nd30 [1, 1, 1, 1]) (k' := kj30_3  K) (by kernel_rfl) (fun st h => J30_3_ok  K st.tm st.g h) ?_
  try unfold J30_2 at h
  unfold kj30_3
  generalize @J30_3 = Q30_3 at h ⊢
  refine code2_sound ok_mono _ _ _ ?_
  refine kmp ?_ h
  generalize Ok Tryd.prog = C
  try unfold en30
  as_aux_lemma => kernel_rfl

noncomputable def J30_1 (x0 : LV) (g : LHeap)  (K : LV → LHeap → Prop) : Prop :=
  J30_2 x0 .nils g  K
abbrev kj30_1  (K : LV → LHeap → Prop) : LSt → Prop := fun st => J30_1 (st.tm 0) st.g  K
theorem J30_1_ok  (K : LV → LHeap → Prop) (tm : Nat → LV) (g : LHeap) (h : J30_1 (tm 0) g  K) : codeL Tryd.prog (Ok Tryd.prog) (nd30 [1, 1]) ⟨tm, g⟩ (en30 K) := by
  refine seq_i (a := nd30 [1, 1, 0]) (b := nd30 [1, 1, 1]) (k' := kj30_2  K) (by kernel_rfl) (fun st h => J30_2_ok  K st.tm st.g h) ?_
  try unfold J30_1 at h
  unfold kj30_2
  generalize @J30_2 = Q30_2 at h ⊢
  refine code2_sound ok_mono _ _ _ ?_
  refine kmp ?_ h
  generalize Ok Tryd.prog = C
  try unfold en30
  as_aux_lemma => kernel_rfl

noncomputable def J30_0 (x0 : LV) (g : LHeap)  (K : LV → LHeap → Prop) : Prop :=
  Ok Tryd.prog 61 [x0] g fun t8 g =>
  vK (unL .not t8) fun t9 =>
  ifB t9 (
  K .nils g) (
  J30_1 x0 g  K)
abbrev kj30_0  (K : LV → LHeap → Prop) : LSt → Prop := fun st => J30_0 (st.tm 0) st.g  K
theorem J30_0_ok  (K : LV → LHeap → Prop) (tm : Nat → LV) (g : LHeap) (h : J30_0 (tm 0) g  K) : codeL Tryd.prog (Ok Tryd.prog) (nd30 [1]) ⟨tm, g⟩ (en30 K) := by
  refine seq_i (a := nd30 [1, 0]) (b := nd30 [1, 1]) (k' := kj30_1  K) (by kernel_rfl) (fun st h => J30_1_ok  K st.tm st.g h) ?_
  try unfold J30_0 at h
  unfold kj30_1
  generalize @J30_1 = Q30_1 at h ⊢
  refine code2_sound ok_mono _ _ _ ?_
  refine kmp ?_ h
  generalize Ok Tryd.prog = C
  try unfold en30
  as_aux_lemma => kernel_rfl

noncomputable def F30 (x0 : LV) (g : LHeap) (K : LV → LHeap → Prop) : Prop :=
  J30_0 x0 g  K
theorem ok30 {x0 : LV} {g : LHeap} {K : LV → LHeap → Prop} (h : g.Wf → (∀ v ∈ ([x0] : List LV), ∀ b ∈ v.objs, b < g.next) → F30 x0 g K) : Ok Tryd.prog 30 [x0] g K := by
  refine ok_fw Tryd.mixed Tryd.func30 (by kernel_rfl) (by kernel_rfl) (c := nd30 []) (by kernel_rfl) fun wf lt => ?_
  rw [← en30_eq]
  replace h := h wf lt
  generalize hs : startL _ = tm
  replace h : F30 (tm 0) g K := by rw [← hs]; exact h
  refine seq_i (a := nd30 [0]) (b := nd30 [1]) (k' := kj30_0  K) (by kernel_rfl) (fun st h => J30_0_ok  K st.tm st.g h) ?_
  try unfold F30 at h
  unfold kj30_0
  generalize @J30_0 = Q30_0 at h ⊢
  refine code2_sound ok_mono _ _ _ ?_
  refine kmp ?_ h
  generalize Ok Tryd.prog = C
  try unfold en30
  as_aux_lemma => kernel_rfl

/-! (*parapet/rcu.Domain).Leave (35 slots) -/
noncomputable def en31 (K : LV → LHeap → Prop) : LEx → LSt → Prop := fun e st => match e with
  | .exit _ => False
  | _ => K (st.tm 4) st.g
theorem en31_eq (K : LV → LHeap → Prop) : en31 K = endL Tryd.prog Tryd.f31 K := by
  funext e st
  cases e <;> kernel_rfl
noncomputable def nd31 (p : List Nat) : Code := subC p (bodyC Tryd.prog 31)
noncomputable def F31 (x0 x1 : LV) (g : LHeap) (K : LV → LHeap → Prop) : Prop :=
  Ok Tryd.prog 61 [x0] g fun t7 g =>
  vK (unL .not t7) fun t8 =>
  ifB t8 (
  K (.int .i64 (6)) g) (
  Ok Tryd.prog 63 [x0, x1] g fun t12 g =>
  vK (unL .not t12) fun t13 =>
  ifB t13 (
  K (.int .i64 (1)) g) (
  vK (nilCheckL x0) fun t16 =>
  vK (fieldAddrL 0 t16) fun t17 =>
  vK (loadV none t17 g) fun t18 =>
  vK (ixAddrL none 1 t18 x1) fun t20 =>
  vK (loadV none t20 g) fun t21 =>
  vK (binL Tryd.prog .eql 3 true t21 (.int .i64 (0))) fun t22 =>
  ifB t22 (
  K (.int .i64 (4)) g) (
  vK (nilCheckL x0) fun t24 =>
  vK (fieldAddrL 0 t24) fun t25 =>
  vK (loadV none t25 g) fun t26 =>
  vK (ixAddrL none 1 t26 x1) fun t28 =>
  vK (loadV none t28 g) fun t29 =>
  vK (binL Tryd.prog .sub 3 true t29 (.int .i64 (1))) fun t30 =>
  vK (ixAddrL none 1 t26 x1) fun t31 =>
  gK (storeV 1 t31 t30 g) fun g =>
  Ok Tryd.prog 28 [x0, x1] g fun t34 g =>
  K (.int .i64 (0)) g)))
theorem ok31 {x0 x1 : LV} {g : LHeap} {K : LV → LHeap → Prop} (h : g.Wf → (∀ v ∈ ([x0, x1] : List LV), ∀ b ∈ v.objs, b < g.next) → F31 x0 x1 g K) : Ok Tryd.prog 31 [x0, x1] g K := by
  refine ok_fw Tryd.mixed Tryd.func31 (by kernel_rfl) (by kernel_rfl) (c := nd31 []) (by kernel_rfl) fun wf lt => ?_
  rw [← en31_eq]
  replace h := h wf lt
  generalize hs : startL _ = tm
  replace h : F31 (tm 0) (tm 1) g K := by rw [← hs]; exact h
  try unfold F31 at h
  refine code2_sound ok_mono _ _ _ ?_
  refine kmp ?_ h
  generalize Ok Tryd.prog = C
  try unfold en31
  as_aux_lemma => kernel_rfl

/-! (*parapet/rcu.Domain).is (20 slots) -/
noncomputable def en63 (K : LV → LHeap → Prop) : LEx → LSt → Prop := fun e st => match e with
  | .exit _ => False
  | _ => K (st.tm 4) st.g
theorem en63_eq (K : LV → LHeap → Prop) : en63 K = endL Tryd.prog Tryd.f63 K := by
  funext e st
  cases e <;> kernel_rfl
noncomputable def nd63 (p : List Nat) : Code := subC p (bodyC Tryd.prog 63)
noncomputable def F63 (x0 x1 : LV) (g : LHeap) (K : LV → LHeap → Prop) : Prop :=
  Ok Tryd.prog 61 [x0] g fun t6 g =>
  gd t6 true g (fun K => K x1 g) fun t8 g =>
  gd t6 true g (fun K => vK (binL Tryd.prog .geq 3 true t8 (.int .i64 (0))) fun v => K v g) fun t9 g =>
  vK (pickL t6 t9 (.bool false)) fun t10 =>
  gd t10 true g (fun K => K x1 g) fun t12 g =>
  gd t10 true g (fun K => K x0 g) fun t13 g =>
  gd t10 true g (fun K => vK (nilCheckL t13) fun v => K v g) fun t14 g =>
  gd t10 true g (fun K => vK (fieldAddrL 0 t14) fun v => K v g) fun t15 g =>
  gd t10 true g (fun K => vK (loadV none t15 g) fun v => K v g) fun t16 g =>
  gd t10 true g (fun K => oK (builtinL Tryd.prog .len [38] [t16] g) K) fun t17 g =>
  gd t10 true g (fun K => vK (binL Tryd.prog .lss 3 false t12 t17) fun v => K v g) fun t18 g =>
  vK (pickL t10 t18 (.bool false)) fun t19 =>
  K t19 g
theorem ok63 {x0 x1 : LV} {g : LHeap} {K : LV → LHeap → Prop} (h : g.Wf → (∀ v ∈ ([x0, x1] : List LV), ∀ b ∈ v.objs, b < g.next) → F63 x0 x1 g K) : Ok Tryd.prog 63 [x0, x1] g K := by
  refine ok_fw Tryd.mixed Tryd.func63 (by kernel_rfl) (by kernel_rfl) (c := nd63 []) (by kernel_rfl) fun wf lt => ?_
  rw [← en63_eq]
  replace h := h wf lt
  generalize hs : startL _ = tm
  replace h : F63 (tm 0) (tm 1) g K := by rw [← hs]; exact h
  try unfold F63 at h
  refine code2_sound ok_mono _ _ _ ?_
  refine kmp ?_ h
  generalize Ok Tryd.prog = C
  try unfold en63
  as_aux_lemma => kernel_rfl

/-! slices.Contains[[]bool,bool] (9 slots) -/
noncomputable def en64 (K : LV → LHeap → Prop) : LEx → LSt → Prop := fun e st => match e with
  | .exit _ => False
  | _ => K (st.tm 4) st.g
theorem en64_eq (K : LV → LHeap → Prop) : en64 K = endL Tryd.prog Tryd.f64 K := by
  funext e st
  cases e <;> kernel_rfl
noncomputable def nd64 (p : List Nat) : Code := subC p (bodyC Tryd.prog 64)
noncomputable def F64 (x0 x1 : LV) (g : LHeap) (K : LV → LHeap → Prop) : Prop :=
  Ok Tryd.prog 97 [x0, x1] g fun t7 g =>
  vK (binL Tryd.prog .geq 3 true t7 (.int .i64 (0))) fun t8 =>
  K t8 g
theorem ok64 {x0 x1 : LV} {g : LHeap} {K : LV → LHeap → Prop} (h : g.Wf → (∀ v ∈ ([x0, x1] : List LV), ∀ b ∈ v.objs, b < g.next) → F64 x0 x1 g K) : Ok Tryd.prog 64 [x0, x1] g K := by
  refine ok_fw Tryd.mixed Tryd.func64 (by kernel_rfl) (by kernel_rfl) (c := nd64 []) (by kernel_rfl) fun wf lt => ?_
  rw [← en64_eq]
  replace h := h wf lt
  generalize hs : startL _ = tm
  replace h : F64 (tm 0) (tm 1) g K := by rw [← hs]; exact h
  try unfold F64 at h
  refine code2_sound ok_mono _ _ _ ?_
  refine kmp ?_ h
  generalize Ok Tryd.prog = C
  try unfold en64
  as_aux_lemma => kernel_rfl

/-! slices.Index[[]bool,bool] (19 slots) -/
noncomputable def en97 (K : LV → LHeap → Prop) : LEx → LSt → Prop := fun e st => match e with
  | .exit _ => False
  | _ => K (st.tm 4) st.g
theorem en97_eq (K : LV → LHeap → Prop) : en97 K = endL Tryd.prog Tryd.f97 K := by
  funext e st
  cases e <;> kernel_rfl
noncomputable def nd97 (p : List Nat) : Code := subC p (bodyC Tryd.prog 97)
noncomputable def J97_1 (g : LHeap)  (K : LV → LHeap → Prop) : Prop :=
  K (.int .i64 (-1)) g
abbrev kj97_1  (K : LV → LHeap → Prop) : LSt → Prop := fun st => J97_1  st.g  K
theorem J97_1_ok  (K : LV → LHeap → Prop) (tm : Nat → LV) (g : LHeap) (h : J97_1  g  K) : codeL Tryd.prog (Ok Tryd.prog) (nd97 [1, 1]) ⟨tm, g⟩ (en97 K) := by
  try unfold J97_1 at h
  refine code2_sound ok_mono _ _ _ ?_
  refine kmp ?_ h
  generalize Ok Tryd.prog = C
  try unfold en97
  as_aux_lemma => kernel_rfl

noncomputable def L97_3 (x0 x1 x7 : LV) (x8 : LV) (g : LHeap) (N3 : LV → LHeap → Prop) (K : LV → LHeap → Prop) : Prop :=
  vK (binL Tryd.prog .lss 3 false x8 x7) fun t9 =>
  ifB t9 (
  vK (ixAddrL none 1 x0 x8) fun t14 =>
  vK (loadV none t14 g) fun t15 =>
  vK (binL Tryd.prog .eql 4 false x1 t15) fun t16 =>
  ifB t16 (
  K x8 g) (
  vK (binL Tryd.prog .add 3 true x8 (.int .i64 (1))) fun t18 =>
  N3 t18 g)) (
  J97_1  g  K)
theorem L97_3_ok (R3 : LV × LV × LV → LV → LHeap → Prop) (K : LV → LHeap → Prop) (tm : Nat → LV) (g : LHeap) (h : L97_3 (tm 0) (tm 1) (tm 7) (tm 8) g (fun s g => R3 ((tm 0), (tm 1), (tm 7)) s g) K) : codeL Tryd.prog (Ok Tryd.prog) (nd97 [1, 0, 1, 0, 0]) ⟨tm, g⟩ (roundK (fun tm : Nat → LV => (tm 0, tm 1, tm 7)) (fun tm : Nat → LV => tm 8) R3 (exitL 0 (thenL (kj97_1  K) (en97 K)))) := by
  try unfold L97_3 at h
  unfold kj97_1
  generalize @J97_1 = Q97_1 at h ⊢
  refine code2_sound ok_mono _ _ _ ?_
  refine kmp ?_ h
  generalize Ok Tryd.prog = C
  try unfold en97
  as_aux_lemma => kernel_rfl

noncomputable def J97_2 (x0 x1 x7 x8 : LV) (g : LHeap)  (K : LV → LHeap → Prop) : Prop :=
  loopP (fun s g N => L97_3 x0 x1 x7 s g N  K) x8 g
abbrev kj97_2  (K : LV → LHeap → Prop) : LSt → Prop := fun st => J97_2 (st.tm 0) (st.tm 1) (st.tm 7) (st.tm 8) st.g  K
theorem J97_2_ok  (K : LV → LHeap → Prop) (tm : Nat → LV) (g : LHeap) (h : J97_2 (tm 0) (tm 1) (tm 7) (tm 8) g  K) : codeL Tryd.prog (Ok Tryd.prog) (nd97 [1, 0, 1]) ⟨tm, g⟩ (thenL (kj97_1  K) (en97 K)) := by
  refine block_i (b := nd97 [1, 0, 1, 0]) (i := 0) (by kernel_rfl) ?_
  exact loop_glue (b := nd97 [1, 0, 1, 0, 0]) (by kernel_rfl) (fun tm : Nat → LV => (tm 0, tm 1, tm 7)) (fun tm : Nat → LV => tm 8) (fun a s g N => L97_3 a.1 a.2.1 a.2.2 s g N  K) (fun tm g R h => L97_3_ok R  K tm g h) tm g h

noncomputable def J97_0 (x0 x1 : LV) (g : LHeap)  (K : LV → LHeap → Prop) : Prop :=
  oK (builtinL Tryd.prog .len [106] [x0] g) fun t7 g =>
  J97_2 x0 x1 t7 (.int .i64 (0)) g  K
abbrev kj97_0  (K : LV → LHeap → Prop) : LSt → Prop := fun st => J97_0 (st.tm 0) (st.tm 1) st.g  K
theorem J97_0_ok  (K : LV → LHeap → Prop) (tm : Nat → LV) (g : LHeap) (h : J97_0 (tm 0) (tm 1) g  K) : codeL Tryd.prog (Ok Tryd.prog) (nd97 [1]) ⟨tm, g⟩ (en97 K) := by
  refine seq_i (a := nd97 [1, 0]) (b := nd97 [1, 1]) (k' := kj97_1  K) (by kernel_rfl) (fun st h => J97_1_ok  K st.tm st.g h) ?_
  refine seq_i (a := nd97 [1, 0, 0]) (b := nd97 [1, 0, 1]) (k' := kj97_2  K) (by kernel_rfl) (fun st h => J97_2_ok  K st.tm st.g h) ?_
  try unfold J97_0 at h
  unfold kj97_2
  generalize @J97_2 = Q97_2 at h ⊢
  unfold kj97_1
  generalize @J97_1 = Q97_1 at h ⊢
  refine code2_sound ok_mono _ _ _ ?_
  refine kmp ?_ h
  generalize Ok Tryd.prog = C
  try unfold en97
  as_aux_lemma => kernel_rfl

noncomputable def F97 (x0 x1 : LV) (g : LHeap) (K : LV → LHeap → Prop) : Prop :=
  J97_0 x0 x1 g  K
theorem ok97 {x0 x1 : LV} {g : LHeap} {K : LV → LHeap → Prop} (h : g.Wf → (∀ v ∈ ([x0, x1] : List LV), ∀ b ∈ v.objs, b < g.next) → F97 x0 x1 g K) : Ok Tryd.prog 97 [x0, x1] g K := by
  refine ok_fw Tryd.mixed Tryd.func97 (by kernel_rfl) (by kernel_rfl) (c := nd97 []) (by kernel_rfl) fun wf lt => ?_
  rw [← en97_eq]
  replace h := h wf lt
  generalize hs : startL _ = tm
  replace h : F97 (tm 0) (tm 1) g K := by rw [← hs]; exact h
  refine seq_i (a := nd97 [0]) (b := nd97 [1]) (k' := kj97_0  K) (by kernel_rfl) (fun st h => J97_0_ok  K st.tm st.g h) ?_
  try unfold F97 at h
  unfold kj97_0
  generalize @J97_0 = Q97_0 at h ⊢
  refine code2_sound ok_mono _ _ _ ?_
  refine kmp ?_ h
  generalize Ok Tryd.prog = C
  try unfold en97
  as_aux_lemma => kernel_rfl

end Go.Proofs.YthinkofjbabfbaaDoor
