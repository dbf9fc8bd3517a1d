/-
  Functions of the program, as texts of named values.
-/
import Derived.Test.YtgncgokjbakdmaaWa0
set_option linter.all false
namespace Go.Proofs.Ytgncgokjbakdmaa
open Go.ChangeShapes Go.WideShapes Go.ChangeAt Go.RowKit Go.Lm
set_option maxRecDepth 1000000
set_option linter.unusedVariables false
/-! parapet/parapetlaw07.TlbOver (175 slots) -/
noncomputable def en4 (K : LV → LHeap → Prop) : LEx → LSt → Prop := fun e st => match e with
  | .exit _ => False
  | _ => K (st.tm 8) st.g
theorem en4_eq (K : LV → LHeap → Prop) : en4 K = endL Try.prog Try.f4 K := by
  funext e st
  cases e <;> kernel_rfl
noncomputable def nd4 (p : List Nat) : Code := subC p (bodyC Try.prog 4)
noncomputable def J4_9 (g : LHeap)  (K : LV → LHeap → Prop) : Prop :=
  K (.bool true) g
abbrev kj4_9  (K : LV → LHeap → Prop) : LSt → Prop := fun st => J4_9  st.g  K
theorem J4_9_ok  (K : LV → LHeap → Prop) (tm : Nat → LV) (g : LHeap) (h : J4_9  g  K) : codeL Try.prog (Ok Try.prog) (nd4 [1, 1, 1, 1, 1, 1, 1, 1, 1, 1]) ⟨tm, g⟩ (en4 K) := by
  try unfold J4_9 at h
  refine code2_sound ok_mono _ _ _ ?_
  refine kmp ?_ h
  generalize Ok Try.prog = C
  unfold en4
  as_aux_lemma => kernel_rfl

noncomputable def J4_13 (x1 x2 x9 x13 x17 : LV) (g : LHeap) (N11 : LV → LHeap → Prop) (K : LV → LHeap → Prop) : Prop :=
  vK (binL Try.prog .add 3 true x17 (.int .i64 (1))) fun t133 =>
  N11 t133 g
abbrev kj4_13 (R11 : LV × LV × LV × LV → LV → LHeap → Prop) (K : LV → LHeap → Prop) : LSt → Prop := fun st => J4_13 (st.tm 1) (st.tm 2) (st.tm 9) (st.tm 13) (st.tm 17) st.g (fun s g => R11 ((st.tm 1), (st.tm 2), (st.tm 9), (st.tm 13)) s g) K
theorem J4_13_ok (R11 : LV × LV × LV × LV → LV → LHeap → Prop) (K : LV → LHeap → Prop) (tm : Nat → LV) (g : LHeap) (h : J4_13 (tm 1) (tm 2) (tm 9) (tm 13) (tm 17) g (fun s g => R11 ((tm 1), (tm 2), (tm 9), (tm 13)) s g) K) : codeL Try.prog (Ok Try.prog) (nd4 [1, 1, 1, 1, 1, 1, 1, 1, 1, 0, 1, 0, 0, 1, 1]) ⟨tm, g⟩ (roundK (fun tm : Nat → LV => (tm 1, tm 2, tm 9, tm 13)) (fun tm : Nat → LV => tm 17) R11 (exitL 6 (thenL (kj4_9  K) (en4 K)))) := by
  try unfold J4_13 at h
  unfold kj4_9
  generalize @J4_9 = Q4_9 at h ⊢
  refine code2_sound ok_mono _ _ _ ?_
  refine kmp ?_ h
  generalize Ok Try.prog = C
  unfold en4
  as_aux_lemma => kernel_rfl

noncomputable def L4_18 (x1 x2 x9 x13 x17 x18 x20 : LV) (x21 : LV) (g : LHeap) (N18 : LV → LHeap → Prop) (N11 : LV → LHeap → Prop) (K : LV → LHeap → Prop) : Prop :=
  oK (builtinL Try.prog .len [50] [x20] g) fun t160 g =>
  vK (binL Try.prog .lss 3 false x21 t160) fun t161 =>
  gd t161 true g (fun K => K x18 g) fun t163 g =>
  gd t161 true g (fun K => vK (unL .not t163) fun v => K v g) fun t164 g =>
  vK (pickL t161 t164 (.bool false)) fun t165 =>
  ifB t165 (
  vK (ixAddrL none 2 x20 x21) fun t170 =>
  vK (fieldAddrL 0 t170) fun t171 =>
  vK (loadV none t171 g) fun t172 =>
  vK (binL Try.prog .eql 3 false t172 x1) fun t174 =>
  ifB t174 (
  K (.bool false) g) (
  vK (binL Try.prog .add 3 true x21 (.int .i64 (1))) fun t167 =>
  N18 t167 g)) (
  J4_13 x1 x2 x9 x13 x17 g N11 K)
theorem L4_18_ok (R18 : LV × LV × LV × LV × LV × LV × LV → LV → LHeap → Prop) (R11 : LV × LV × LV × LV → LV → LHeap → Prop) (K : LV → LHeap → Prop) (tm : Nat → LV) (g : LHeap) (h : L4_18 (tm 1) (tm 2) (tm 9) (tm 13) (tm 17) (tm 18) (tm 20) (tm 21) g (fun s g => R18 ((tm 1), (tm 2), (tm 9), (tm 13), (tm 17), (tm 18), (tm 20)) s g) (fun s g => R11 ((tm 1), (tm 2), (tm 9), (tm 13)) s g) K) : codeL Try.prog (Ok Try.prog) (nd4 [1, 1, 1, 1, 1, 1, 1, 1, 1, 0, 1, 0, 0, 1, 0, 0, 1, 1, 1, 1, 0, 0]) ⟨tm, g⟩ (roundK (fun tm : Nat → LV => (tm 1, tm 2, tm 9, tm 13, tm 17, tm 18, tm 20)) (fun tm : Nat → LV => tm 21) R18 (exitL 10 (exitL 7 (thenL (kj4_13 R11 K) (roundK (fun tm : Nat → LV => (tm 1, tm 2, tm 9, tm 13)) (fun tm : Nat → LV => tm 17) R11 (exitL 6 (thenL (kj4_9  K) (en4 K)))))))) := by
  try unfold L4_18 at h
  unfold kj4_13
  generalize @J4_13 = Q4_13 at h ⊢
  unfold kj4_9
  generalize @J4_9 = Q4_9 at h ⊢
  refine code2_sound ok_mono _ _ _ ?_
  refine kmp ?_ h
  generalize Ok Try.prog = C
  unfold en4
  as_aux_lemma => kernel_rfl

noncomputable def J4_17 (x1 x2 x9 x13 x17 x18 x20 x21 : LV) (g : LHeap) (N11 : LV → LHeap → Prop) (K : LV → LHeap → Prop) : Prop :=
  loopP (fun s g N => L4_18 x1 x2 x9 x13 x17 x18 x20 s g N N11 K) x21 g
abbrev kj4_17 (R11 : LV × LV × LV × LV → LV → LHeap → Prop) (K : LV → LHeap → Prop) : LSt → Prop := fun st => J4_17 (st.tm 1) (st.tm 2) (st.tm 9) (st.tm 13) (st.tm 17) (st.tm 18) (st.tm 20) (st.tm 21) st.g (fun s g => R11 ((st.tm 1), (st.tm 2), (st.tm 9), (st.tm 13)) s g) K
theorem J4_17_ok (R11 : LV × LV × LV × LV → LV → LHeap → Prop) (K : LV → LHeap → Prop) (tm : Nat → LV) (g : LHeap) (h : J4_17 (tm 1) (tm 2) (tm 9) (tm 13) (tm 17) (tm 18) (tm 20) (tm 21) g (fun s g => R11 ((tm 1), (tm 2), (tm 9), (tm 13)) s g) K) : codeL Try.prog (Ok Try.prog) (nd4 [1, 1, 1, 1, 1, 1, 1, 1, 1, 0, 1, 0, 0, 1, 0, 0, 1, 1, 1, 1]) ⟨tm, g⟩ (exitL 7 (thenL (kj4_13 R11 K) (roundK (fun tm : Nat → LV => (tm 1, tm 2, tm 9, tm 13)) (fun tm : Nat → LV => tm 17) R11 (exitL 6 (thenL (kj4_9  K) (en4 K)))))) := by
  refine block_i (b := nd4 [1, 1, 1, 1, 1, 1, 1, 1, 1, 0, 1, 0, 0, 1, 0, 0, 1, 1, 1, 1, 0]) (i := 10) (by kernel_rfl) ?_
  exact loop_glue (b := nd4 [1, 1, 1, 1, 1, 1, 1, 1, 1, 0, 1, 0, 0, 1, 0, 0, 1, 1, 1, 1, 0, 0]) (by kernel_rfl) (fun tm : Nat → LV => (tm 1, tm 2, tm 9, tm 13, tm 17, tm 18, tm 20)) (fun tm : Nat → LV => tm 21) (fun a s g N => L4_18 a.1 a.2.1 a.2.2.1 a.2.2.2.1 a.2.2.2.2.1 a.2.2.2.2.2.1 a.2.2.2.2.2.2 s g N (fun s g => R11 ((a.1), (a.2.1), (a.2.2.1), (a.2.2.2.1)) s g) K) (fun tm g R h => L4_18_ok R R11 K tm g h) tm g h

noncomputable def J4_16 (x1 x2 x9 x13 x17 x18 x20 : LV) (g : LHeap) (N11 : LV → LHeap → Prop) (K : LV → LHeap → Prop) : Prop :=
  J4_17 x1 x2 x9 x13 x17 x18 x20 (.int .i64 (0)) g N11 K
abbrev kj4_16 (R11 : LV × LV × LV × LV → LV → LHeap → Prop) (K : LV → LHeap → Prop) : LSt → Prop := fun st => J4_16 (st.tm 1) (st.tm 2) (st.tm 9) (st.tm 13) (st.tm 17) (st.tm 18) (st.tm 20) st.g (fun s g => R11 ((st.tm 1), (st.tm 2), (st.tm 9), (st.tm 13)) s g) K
theorem J4_16_ok (R11 : LV × LV × LV × LV → LV → LHeap → Prop) (K : LV → LHeap → Prop) (tm : Nat → LV) (g : LHeap) (h : J4_16 (tm 1) (tm 2) (tm 9) (tm 13) (tm 17) (tm 18) (tm 20) g (fun s g => R11 ((tm 1), (tm 2), (tm 9), (tm 13)) s g) K) : codeL Try.prog (Ok Try.prog) (nd4 [1, 1, 1, 1, 1, 1, 1, 1, 1, 0, 1, 0, 0, 1, 0, 0, 1, 1, 1]) ⟨tm, g⟩ (exitL 7 (thenL (kj4_13 R11 K) (roundK (fun tm : Nat → LV => (tm 1, tm 2, tm 9, tm 13)) (fun tm : Nat → LV => tm 17) R11 (exitL 6 (thenL (kj4_9  K) (en4 K)))))) := by
  refine seq_i (a := nd4 [1, 1, 1, 1, 1, 1, 1, 1, 1, 0, 1, 0, 0, 1, 0, 0, 1, 1, 1, 0]) (b := nd4 [1, 1, 1, 1, 1, 1, 1, 1, 1, 0, 1, 0, 0, 1, 0, 0, 1, 1, 1, 1]) (k' := kj4_17 R11 K) (by kernel_rfl) (fun st h => J4_17_ok R11 K st.tm st.g h) ?_
  try unfold J4_16 at h
  unfold kj4_17
  generalize @J4_17 = Q4_17 at h ⊢
  unfold kj4_13
  generalize @J4_13 = Q4_13 at h ⊢
  unfold kj4_9
  generalize @J4_9 = Q4_9 at h ⊢
  refine code2_sound ok_mono _ _ _ ?_
  refine kmp ?_ h
  generalize Ok Try.prog = C
  unfold en4
  as_aux_lemma => kernel_rfl

noncomputable def J4_15 (x1 x2 x9 x13 x17 x18 : LV) (g : LHeap) (N11 : LV → LHeap → Prop) (K : LV → LHeap → Prop) : Prop :=
  vK (ixAddrL none 1 x2 x17) fun t155 =>
  vK (loadV none t155 g) fun t156 =>
  Ok Try.prog 25 [x9, t156] g fun t157 g =>
  J4_16 x1 x2 x9 x13 x17 x18 t157 g N11 K
abbrev kj4_15 (R11 : LV × LV × LV × LV → LV → LHeap → Prop) (K : LV → LHeap → Prop) : LSt → Prop := fun st => J4_15 (st.tm 1) (st.tm 2) (st.tm 9) (st.tm 13) (st.tm 17) (st.tm 18) st.g (fun s g => R11 ((st.tm 1), (st.tm 2), (st.tm 9), (st.tm 13)) s g) K
theorem J4_15_ok (R11 : LV × LV × LV × LV → LV → LHeap → Prop) (K : LV → LHeap → Prop) (tm : Nat → LV) (g : LHeap) (h : J4_15 (tm 1) (tm 2) (tm 9) (tm 13) (tm 17) (tm 18) g (fun s g => R11 ((tm 1), (tm 2), (tm 9), (tm 13)) s g) K) : codeL Try.prog (Ok Try.prog) (nd4 [1, 1, 1, 1, 1, 1, 1, 1, 1, 0, 1, 0, 0, 1, 0, 0, 1, 1]) ⟨tm, g⟩ (exitL 7 (thenL (kj4_13 R11 K) (roundK (fun tm : Nat → LV => (tm 1, tm 2, tm 9, tm 13)) (fun tm : Nat → LV => tm 17) R11 (exitL 6 (thenL (kj4_9  K) (en4 K)))))) := by
  refine seq_i (a := nd4 [1, 1, 1, 1, 1, 1, 1, 1, 1, 0, 1, 0, 0, 1, 0, 0, 1, 1, 0]) (b := nd4 [1, 1, 1, 1, 1, 1, 1, 1, 1, 0, 1, 0, 0, 1, 0, 0, 1, 1, 1]) (k' := kj4_16 R11 K) (by kernel_rfl) (fun st h => J4_16_ok R11 K st.tm st.g h) ?_
  try unfold J4_15 at h
  unfold kj4_16
  generalize @J4_16 = Q4_16 at h ⊢
  unfold kj4_13
  generalize @J4_13 = Q4_13 at h ⊢
  unfold kj4_9
  generalize @J4_9 = Q4_9 at h ⊢
  refine code2_sound ok_mono _ _ _ ?_
  refine kmp ?_ h
  generalize Ok Try.prog = C
  unfold en4
  as_aux_lemma => kernel_rfl

noncomputable def L4_20 (x1 x2 x9 x13 x17 : LV) (x18 x19 : LV) (g : LHeap) (N20 : LV × LV → LHeap → Prop) (N11 : LV → LHeap → Prop) (K : LV → LHeap → Prop) : Prop :=
  oK (builtinL Try.prog .len [24] [x13] g) fun t136 g =>
  vK (binL Try.prog .lss 3 false x19 t136) fun t137 =>
  ifB t137 (
  gdV x18 false (some x13) fun t142 =>
  gdV x18 false (some x19) fun t143 =>
  gdV x18 false (ixAddrL none 1 t142 t143) fun t144 =>
  gdV x18 false (loadV none t144 g) fun t145 =>
  gdV x18 false (some x2) fun t146 =>
  gdV x18 false (some x17) fun t147 =>
  gdV x18 false (ixAddrL none 1 t146 t147) fun t148 =>
  gdV x18 false (loadV none t148 g) fun t149 =>
  gdV x18 false (binL Try.prog .eql 3 false t145 t149) fun t150 =>
  vK (pickL x18 (.bool true) t150) fun t151 =>
  vK (binL Try.prog .add 3 true x19 (.int .i64 (1))) fun t139 =>
  N20 (t151, t139) g) (
  J4_15 x1 x2 x9 x13 x17 x18 g N11 K)
theorem L4_20_ok (R20 : LV × LV × LV × LV × LV → LV × LV → LHeap → Prop) (R11 : LV × LV × LV × LV → LV → LHeap → Prop) (K : LV → LHeap → Prop) (tm : Nat → LV) (g : LHeap) (h : L4_20 (tm 1) (tm 2) (tm 9) (tm 13) (tm 17) (tm 18) (tm 19) g (fun s g => R20 ((tm 1), (tm 2), (tm 9), (tm 13), (tm 17)) s g) (fun s g => R11 ((tm 1), (tm 2), (tm 9), (tm 13)) s g) K) : codeL Try.prog (Ok Try.prog) (nd4 [1, 1, 1, 1, 1, 1, 1, 1, 1, 0, 1, 0, 0, 1, 0, 0, 1, 0, 1, 0, 0]) ⟨tm, g⟩ (roundK (fun tm : Nat → LV => (tm 1, tm 2, tm 9, tm 13, tm 17)) (fun tm : Nat → LV => (tm 18, tm 19)) R20 (exitL 8 (thenL (kj4_15 R11 K) (exitL 7 (thenL (kj4_13 R11 K) (roundK (fun tm : Nat → LV => (tm 1, tm 2, tm 9, tm 13)) (fun tm : Nat → LV => tm 17) R11 (exitL 6 (thenL (kj4_9  K) (en4 K))))))))) := by
  try unfold L4_20 at h
  unfold kj4_15
  generalize @J4_15 = Q4_15 at h ⊢
  unfold kj4_13
  generalize @J4_13 = Q4_13 at h ⊢
  unfold kj4_9
  generalize @J4_9 = Q4_9 at h ⊢
  refine code3_sound ok_mono (pl := [(34, (.lt 0 false (.lt 1 false (.lt 2 false (.lt 3 false (.lt 4 false (.lt 5 false (.lt 6 false (.lt 7 false (.lt 8 false (.lt 9 false (.lt 10 false (.lt 11 false (.lt 12 false .nil))))))))))))))]) _ _ _ (by kernel_rfl) ?_
  refine kmp ?_ h
  generalize Ok Try.prog = C
  unfold en4
  as_aux_lemma => kernel_rfl

noncomputable def J4_19 (x1 x2 x9 x13 x17 x18 x19 : LV) (g : LHeap) (N11 : LV → LHeap → Prop) (K : LV → LHeap → Prop) : Prop :=
  loopP (fun s g N => L4_20 x1 x2 x9 x13 x17 s.1 s.2 g N N11 K) (x18, x19) g
abbrev kj4_19 (R11 : LV × LV × LV × LV → LV → LHeap → Prop) (K : LV → LHeap → Prop) : LSt → Prop := fun st => J4_19 (st.tm 1) (st.tm 2) (st.tm 9) (st.tm 13) (st.tm 17) (st.tm 18) (st.tm 19) st.g (fun s g => R11 ((st.tm 1), (st.tm 2), (st.tm 9), (st.tm 13)) s g) K
theorem J4_19_ok (R11 : LV × LV × LV × LV → LV → LHeap → Prop) (K : LV → LHeap → Prop) (tm : Nat → LV) (g : LHeap) (h : J4_19 (tm 1) (tm 2) (tm 9) (tm 13) (tm 17) (tm 18) (tm 19) g (fun s g => R11 ((tm 1), (tm 2), (tm 9), (tm 13)) s g) K) : codeL Try.prog (Ok Try.prog) (nd4 [1, 1, 1, 1, 1, 1, 1, 1, 1, 0, 1, 0, 0, 1, 0, 0, 1, 0, 1]) ⟨tm, g⟩ (thenL (kj4_15 R11 K) (exitL 7 (thenL (kj4_13 R11 K) (roundK (fun tm : Nat → LV => (tm 1, tm 2, tm 9, tm 13)) (fun tm : Nat → LV => tm 17) R11 (exitL 6 (thenL (kj4_9  K) (en4 K))))))) := by
  refine block_i (b := nd4 [1, 1, 1, 1, 1, 1, 1, 1, 1, 0, 1, 0, 0, 1, 0, 0, 1, 0, 1, 0]) (i := 8) (by kernel_rfl) ?_
  exact loop_glue (b := nd4 [1, 1, 1, 1, 1, 1, 1, 1, 1, 0, 1, 0, 0, 1, 0, 0, 1, 0, 1, 0, 0]) (by kernel_rfl) (fun tm : Nat → LV => (tm 1, tm 2, tm 9, tm 13, tm 17)) (fun tm : Nat → LV => (tm 18, tm 19)) (fun a s g N => L4_20 a.1 a.2.1 a.2.2.1 a.2.2.2.1 a.2.2.2.2 s.1 s.2 g N (fun s g => R11 ((a.1), (a.2.1), (a.2.2.1), (a.2.2.2.1)) s g) K) (fun tm g R h => L4_20_ok R R11 K tm g h) tm g h

noncomputable def J4_14 (x1 x2 x9 x13 x17 x18 : LV) (g : LHeap) (N11 : LV → LHeap → Prop) (K : LV → LHeap → Prop) : Prop :=
  J4_19 x1 x2 x9 x13 x17 x18 (.int .i64 (0)) g N11 K
abbrev kj4_14 (R11 : LV × LV × LV × LV → LV → LHeap → Prop) (K : LV → LHeap → Prop) : LSt → Prop := fun st => J4_14 (st.tm 1) (st.tm 2) (st.tm 9) (st.tm 13) (st.tm 17) (st.tm 18) st.g (fun s g => R11 ((st.tm 1), (st.tm 2), (st.tm 9), (st.tm 13)) s g) K
theorem J4_14_ok (R11 : LV × LV × LV × LV → LV → LHeap → Prop) (K : LV → LHeap → Prop) (tm : Nat → LV) (g : LHeap) (h : J4_14 (tm 1) (tm 2) (tm 9) (tm 13) (tm 17) (tm 18) g (fun s g => R11 ((tm 1), (tm 2), (tm 9), (tm 13)) s g) K) : codeL Try.prog (Ok Try.prog) (nd4 [1, 1, 1, 1, 1, 1, 1, 1, 1, 0, 1, 0, 0, 1, 0, 0, 1]) ⟨tm, g⟩ (exitL 7 (thenL (kj4_13 R11 K) (roundK (fun tm : Nat → LV => (tm 1, tm 2, tm 9, tm 13)) (fun tm : Nat → LV => tm 17) R11 (exitL 6 (thenL (kj4_9  K) (en4 K)))))) := by
  refine seq_i (a := nd4 [1, 1, 1, 1, 1, 1, 1, 1, 1, 0, 1, 0, 0, 1, 0, 0, 1, 0]) (b := nd4 [1, 1, 1, 1, 1, 1, 1, 1, 1, 0, 1, 0, 0, 1, 0, 0, 1, 1]) (k' := kj4_15 R11 K) (by kernel_rfl) (fun st h => J4_15_ok R11 K st.tm st.g h) ?_
  refine seq_i (a := nd4 [1, 1, 1, 1, 1, 1, 1, 1, 1, 0, 1, 0, 0, 1, 0, 0, 1, 0, 0]) (b := nd4 [1, 1, 1, 1, 1, 1, 1, 1, 1, 0, 1, 0, 0, 1, 0, 0, 1, 0, 1]) (k' := kj4_19 R11 K) (by kernel_rfl) (fun st h => J4_19_ok R11 K st.tm st.g h) ?_
  try unfold J4_14 at h
  unfold kj4_19
  generalize @J4_19 = Q4_19 at h ⊢
  unfold kj4_15
  generalize @J4_15 = Q4_15 at h ⊢
  unfold kj4_13
  generalize @J4_13 = Q4_13 at h ⊢
  unfold kj4_9
  generalize @J4_9 = Q4_9 at h ⊢
  refine code2_sound ok_mono _ _ _ ?_
  refine kmp ?_ h
  generalize Ok Try.prog = C
  unfold en4
  as_aux_lemma => kernel_rfl

noncomputable def J4_12 (x1 x2 x9 x13 x17 : LV) (g : LHeap) (N11 : LV → LHeap → Prop) (K : LV → LHeap → Prop) : Prop :=
  J4_14 x1 x2 x9 x13 x17 (.bool false) g N11 K
abbrev kj4_12 (R11 : LV × LV × LV × LV → LV → LHeap → Prop) (K : LV → LHeap → Prop) : LSt → Prop := fun st => J4_12 (st.tm 1) (st.tm 2) (st.tm 9) (st.tm 13) (st.tm 17) st.g (fun s g => R11 ((st.tm 1), (st.tm 2), (st.tm 9), (st.tm 13)) s g) K
theorem J4_12_ok (R11 : LV × LV × LV × LV → LV → LHeap → Prop) (K : LV → LHeap → Prop) (tm : Nat → LV) (g : LHeap) (h : J4_12 (tm 1) (tm 2) (tm 9) (tm 13) (tm 17) g (fun s g => R11 ((tm 1), (tm 2), (tm 9), (tm 13)) s g) K) : codeL Try.prog (Ok Try.prog) (nd4 [1, 1, 1, 1, 1, 1, 1, 1, 1, 0, 1, 0, 0, 1]) ⟨tm, g⟩ (roundK (fun tm : Nat → LV => (tm 1, tm 2, tm 9, tm 13)) (fun tm : Nat → LV => tm 17) R11 (exitL 6 (thenL (kj4_9  K) (en4 K)))) := by
  refine seq_i (a := nd4 [1, 1, 1, 1, 1, 1, 1, 1, 1, 0, 1, 0, 0, 1, 0]) (b := nd4 [1, 1, 1, 1, 1, 1, 1, 1, 1, 0, 1, 0, 0, 1, 1]) (k' := kj4_13 R11 K) (by kernel_rfl) (fun st h => J4_13_ok R11 K st.tm st.g h) ?_
  refine block_i (b := nd4 [1, 1, 1, 1, 1, 1, 1, 1, 1, 0, 1, 0, 0, 1, 0, 0]) (i := 7) (by kernel_rfl) ?_
  refine seq_i (a := nd4 [1, 1, 1, 1, 1, 1, 1, 1, 1, 0, 1, 0, 0, 1, 0, 0, 0]) (b := nd4 [1, 1, 1, 1, 1, 1, 1, 1, 1, 0, 1, 0, 0, 1, 0, 0, 1]) (k' := kj4_14 R11 K) (by kernel_rfl) (fun st h => J4_14_ok R11 K st.tm st.g h) ?_
  try unfold J4_12 at h
  unfold kj4_14
  generalize @J4_14 = Q4_14 at h ⊢
  unfold kj4_13
  generalize @J4_13 = Q4_13 at h ⊢
  unfold kj4_9
  generalize @J4_9 = Q4_9 at h ⊢
  refine code2_sound ok_mono _ _ _ ?_
  refine kmp ?_ h
  generalize Ok Try.prog = C
  unfold en4
  as_aux_lemma => kernel_rfl

noncomputable def L4_11 (x1 x2 x9 x13 : LV) (x17 : LV) (g : LHeap) (N11 : LV → LHeap → Prop) (K : LV → LHeap → Prop) : Prop :=
  oK (builtinL Try.prog .len [24] [x2] g) fun t130 g =>
  vK (binL Try.prog .lss 3 false x17 t130) fun t131 =>
  ifB t131 (
  J4_12 x1 x2 x9 x13 x17 g N11 K) (
  J4_9  g  K)
theorem L4_11_ok (R11 : LV × LV × LV × LV → LV → LHeap → Prop) (K : LV → LHeap → Prop) (tm : Nat → LV) (g : LHeap) (h : L4_11 (tm 1) (tm 2) (tm 9) (tm 13) (tm 17) g (fun s g => R11 ((tm 1), (tm 2), (tm 9), (tm 13)) s g) K) : codeL Try.prog (Ok Try.prog) (nd4 [1, 1, 1, 1, 1, 1, 1, 1, 1, 0, 1, 0, 0]) ⟨tm, g⟩ (roundK (fun tm : Nat → LV => (tm 1, tm 2, tm 9, tm 13)) (fun tm : Nat → LV => tm 17) R11 (exitL 6 (thenL (kj4_9  K) (en4 K)))) := by
  refine seq_i (a := nd4 [1, 1, 1, 1, 1, 1, 1, 1, 1, 0, 1, 0, 0, 0]) (b := nd4 [1, 1, 1, 1, 1, 1, 1, 1, 1, 0, 1, 0, 0, 1]) (k' := kj4_12 R11 K) (by kernel_rfl) (fun st h => J4_12_ok R11 K st.tm st.g h) ?_
  try unfold L4_11 at h
  unfold kj4_12
  generalize @J4_12 = Q4_12 at h ⊢
  unfold kj4_9
  generalize @J4_9 = Q4_9 at h ⊢
  refine code2_sound ok_mono _ _ _ ?_
  refine kmp ?_ h
  generalize Ok Try.prog = C
  unfold en4
  as_aux_lemma => kernel_rfl

noncomputable def J4_10 (x1 x2 x9 x13 x17 : LV) (g : LHeap)  (K : LV → LHeap → Prop) : Prop :=
  loopP (fun s g N => L4_11 x1 x2 x9 x13 s g N  K) x17 g
abbrev kj4_10  (K : LV → LHeap → Prop) : LSt → Prop := fun st => J4_10 (st.tm 1) (st.tm 2) (st.tm 9) (st.tm 13) (st.tm 17) st.g  K
theorem J4_10_ok  (K : LV → LHeap → Prop) (tm : Nat → LV) (g : LHeap) (h : J4_10 (tm 1) (tm 2) (tm 9) (tm 13) (tm 17) g  K) : codeL Try.prog (Ok Try.prog) (nd4 [1, 1, 1, 1, 1, 1, 1, 1, 1, 0, 1]) ⟨tm, g⟩ (thenL (kj4_9  K) (en4 K)) := by
  refine block_i (b := nd4 [1, 1, 1, 1, 1, 1, 1, 1, 1, 0, 1, 0]) (i := 6) (by kernel_rfl) ?_
  exact loop_glue (b := nd4 [1, 1, 1, 1, 1, 1, 1, 1, 1, 0, 1, 0, 0]) (by kernel_rfl) (fun tm : Nat → LV => (tm 1, tm 2, tm 9, tm 13)) (fun tm : Nat → LV => tm 17) (fun a s g N => L4_11 a.1 a.2.1 a.2.2.1 a.2.2.2 s g N  K) (fun tm g R h => L4_11_ok R  K tm g h) tm g h

noncomputable def J4_8 (x1 x2 x9 x13 : LV) (g : LHeap)  (K : LV → LHeap → Prop) : Prop :=
  J4_10 x1 x2 x9 x13 (.int .i64 (0)) g  K
abbrev kj4_8  (K : LV → LHeap → Prop) : LSt → Prop := fun st => J4_8 (st.tm 1) (st.tm 2) (st.tm 9) (st.tm 13) st.g  K
theorem J4_8_ok  (K : LV → LHeap → Prop) (tm : Nat → LV) (g : LHeap) (h : J4_8 (tm 1) (tm 2) (tm 9) (tm 13) g  K) : codeL Try.prog (Ok Try.prog) (nd4 [1, 1, 1, 1, 1, 1, 1, 1, 1]) ⟨tm, g⟩ (en4 K) := by
  refine seq_i (a := nd4 [1, 1, 1, 1, 1, 1, 1, 1, 1, 0]) (b := nd4 [1, 1, 1, 1, 1, 1, 1, 1, 1, 1]) (k' := kj4_9  K) (by kernel_rfl) (fun st h => J4_9_ok  K st.tm st.g h) ?_
  refine seq_i (a := nd4 [1, 1, 1, 1, 1, 1, 1, 1, 1, 0, 0]) (b := nd4 [1, 1, 1, 1, 1, 1, 1, 1, 1, 0, 1]) (k' := kj4_10  K) (by kernel_rfl) (fun st h => J4_10_ok  K st.tm st.g h) ?_
  try unfold J4_8 at h
  unfold kj4_10
  generalize @J4_10 = Q4_10 at h ⊢
  unfold kj4_9
  generalize @J4_9 = Q4_9 at h ⊢
  refine code2_sound ok_mono _ _ _ ?_
  refine kmp ?_ h
  generalize Ok Try.prog = C
  unfold en4
  as_aux_lemma => kernel_rfl

noncomputable def J4_7 (x1 x2 x9 x12 x13 : LV) (g : LHeap)  (K : LV → LHeap → Prop) : Prop :=
  Ok Try.prog 23 [x9, x12] g fun t123 g =>
  oK (builtinL Try.prog .len [24] [x13] g) fun t125 g =>
  vK (binL Try.prog .eql 3 true t125 (.int .i64 (0))) fun t126 =>
  vK (binL Try.prog .neq 4 false t123 t126) fun t127 =>
  ifB t127 (
  K (.bool false) g) (
  J4_8 x1 x2 x9 x13 g  K)
abbrev kj4_7  (K : LV → LHeap → Prop) : LSt → Prop := fun st => J4_7 (st.tm 1) (st.tm 2) (st.tm 9) (st.tm 12) (st.tm 13) st.g  K
theorem J4_7_ok  (K : LV → LHeap → Prop) (tm : Nat → LV) (g : LHeap) (h : J4_7 (tm 1) (tm 2) (tm 9) (tm 12) (tm 13) g  K) : codeL Try.prog (Ok Try.prog) (nd4 [1, 1, 1, 1, 1, 1, 1, 1]) ⟨tm, g⟩ (en4 K) := by
  refine seq_i (a := nd4 [1, 1, 1, 1, 1, 1, 1, 1, 0]) (b := nd4 [1, 1, 1, 1, 1, 1, 1, 1, 1]) (k' := kj4_8  K) (by kernel_rfl) (fun st h => J4_8_ok  K st.tm st.g h) ?_
  try unfold J4_7 at h
  unfold kj4_8
  generalize @J4_8 = Q4_8 at h ⊢
  refine code2_sound ok_mono _ _ _ ?_
  refine kmp ?_ h
  generalize Ok Try.prog = C
  unfold en4
  as_aux_lemma => kernel_rfl

noncomputable def J4_24 (x1 x2 x3 x9 x12 x13 x14 : LV) (g : LHeap) (N22 : LV × LV → LHeap → Prop) (K : LV → LHeap → Prop) : Prop :=
  vK (binL Try.prog .add 3 true x14 (.int .i64 (1))) fun t84 =>
  N22 (x13, t84) g
abbrev kj4_24 (R22 : LV × LV × LV × LV × LV → LV × LV → LHeap → Prop) (K : LV → LHeap → Prop) : LSt → Prop := fun st => J4_24 (st.tm 1) (st.tm 2) (st.tm 3) (st.tm 9) (st.tm 12) (st.tm 13) (st.tm 14) st.g (fun s g => R22 ((st.tm 1), (st.tm 2), (st.tm 3), (st.tm 9), (st.tm 12)) s g) K
theorem J4_24_ok (R22 : LV × LV × LV × LV × LV → LV × LV → LHeap → Prop) (K : LV → LHeap → Prop) (tm : Nat → LV) (g : LHeap) (h : J4_24 (tm 1) (tm 2) (tm 3) (tm 9) (tm 12) (tm 13) (tm 14) g (fun s g => R22 ((tm 1), (tm 2), (tm 3), (tm 9), (tm 12)) s g) K) : codeL Try.prog (Ok Try.prog) (nd4 [1, 1, 1, 1, 1, 1, 1, 0, 1, 0, 0, 1, 1]) ⟨tm, g⟩ (roundK (fun tm : Nat → LV => (tm 1, tm 2, tm 3, tm 9, tm 12)) (fun tm : Nat → LV => (tm 13, tm 14)) R22 (exitL 2 (thenL (kj4_7  K) (en4 K)))) := by
  try unfold J4_24 at h
  unfold kj4_7
  generalize @J4_7 = Q4_7 at h ⊢
  refine code2_sound ok_mono _ _ _ ?_
  refine kmp ?_ h
  generalize Ok Try.prog = C
  unfold en4
  as_aux_lemma => kernel_rfl

noncomputable def J4_28 (x1 x2 x3 x9 x12 x14 x15 : LV) (g : LHeap) (N22 : LV × LV → LHeap → Prop) (K : LV → LHeap → Prop) : Prop :=
  J4_24 x1 x2 x3 x9 x12 x15 x14 g N22 K
abbrev kj4_28 (R22 : LV × LV × LV × LV × LV → LV × LV → LHeap → Prop) (K : LV → LHeap → Prop) : LSt → Prop := fun st => J4_28 (st.tm 1) (st.tm 2) (st.tm 3) (st.tm 9) (st.tm 12) (st.tm 14) (st.tm 15) st.g (fun s g => R22 ((st.tm 1), (st.tm 2), (st.tm 3), (st.tm 9), (st.tm 12)) s g) K
theorem J4_28_ok (R22 : LV × LV × LV × LV × LV → LV × LV → LHeap → Prop) (K : LV → LHeap → Prop) (tm : Nat → LV) (g : LHeap) (h : J4_28 (tm 1) (tm 2) (tm 3) (tm 9) (tm 12) (tm 14) (tm 15) g (fun s g => R22 ((tm 1), (tm 2), (tm 3), (tm 9), (tm 12)) s g) K) : codeL Try.prog (Ok Try.prog) (nd4 [1, 1, 1, 1, 1, 1, 1, 0, 1, 0, 0, 1, 0, 0, 1, 1, 1, 1]) ⟨tm, g⟩ (exitL 3 (thenL (kj4_24 R22 K) (roundK (fun tm : Nat → LV => (tm 1, tm 2, tm 3, tm 9, tm 12)) (fun tm : Nat → LV => (tm 13, tm 14)) R22 (exitL 2 (thenL (kj4_7  K) (en4 K)))))) := by
  try unfold J4_28 at h
  unfold kj4_24
  generalize @J4_24 = Q4_24 at h ⊢
  unfold kj4_7
  generalize @J4_7 = Q4_7 at h ⊢
  refine code2_sound ok_mono _ _ _ ?_
  refine kmp ?_ h
  generalize Ok Try.prog = C
  unfold en4
  as_aux_lemma => kernel_rfl

noncomputable def L4_30 (x1 x2 x3 x9 x12 x13 x14 : LV) (x15 x16 : LV) (g : LHeap) (N30 : LV × LV → LHeap → Prop) (N22 : LV × LV → LHeap → Prop) (K : LV → LHeap → Prop) : Prop :=
  oK (builtinL Try.prog .len [24] [x13] g) fun t100 g =>
  vK (binL Try.prog .lss 3 false x16 t100) fun t101 =>
  ifB t101 (
  vK (ixAddrL none 1 x13 x16) fun t106 =>
  vK (loadV none t106 g) fun t107 =>
  vK (ixAddrL none 1 x3 x14) fun t110 =>
  vK (loadV none t110 g) fun t111 =>
  vK (binL Try.prog .neq 3 false t107 t111) fun t112 =>
  ifB t112 (
  vK (ixAddrL none 1 x13 x16) fun t116 =>
  vK (loadV none t116 g) fun t117 =>
  oK (buildSliceL Try.prog 24 1 [(0, t117)] g) fun t118 g =>
  oK (builtinL Try.prog .append [24, 24] [x15, t118] g) fun t119 g =>
  vK (binL Try.prog .add 3 true x16 (.int .i64 (1))) fun t103 =>
  N30 (t119, t103) g) (
  vK (binL Try.prog .add 3 true x16 (.int .i64 (1))) fun t103 =>
  N30 (x15, t103) g)) (
  J4_28 x1 x2 x3 x9 x12 x14 x15 g N22 K)
theorem L4_30_ok (R30 : LV × LV × LV × LV × LV × LV × LV → LV × LV → LHeap → Prop) (R22 : LV × LV × LV × LV × LV → LV × LV → LHeap → Prop) (K : LV → LHeap → Prop) (tm : Nat → LV) (g : LHeap) (h : L4_30 (tm 1) (tm 2) (tm 3) (tm 9) (tm 12) (tm 13) (tm 14) (tm 15) (tm 16) g (fun s g => R30 ((tm 1), (tm 2), (tm 3), (tm 9), (tm 12), (tm 13), (tm 14)) s g) (fun s g => R22 ((tm 1), (tm 2), (tm 3), (tm 9), (tm 12)) s g) K) : codeL Try.prog (Ok Try.prog) (nd4 [1, 1, 1, 1, 1, 1, 1, 0, 1, 0, 0, 1, 0, 0, 1, 1, 1, 0, 1, 0, 0]) ⟨tm, g⟩ (roundK (fun tm : Nat → LV => (tm 1, tm 2, tm 3, tm 9, tm 12, tm 13, tm 14)) (fun tm : Nat → LV => (tm 15, tm 16)) R30 (exitL 4 (thenL (kj4_28 R22 K) (exitL 3 (thenL (kj4_24 R22 K) (roundK (fun tm : Nat → LV => (tm 1, tm 2, tm 3, tm 9, tm 12)) (fun tm : Nat → LV => (tm 13, tm 14)) R22 (exitL 2 (thenL (kj4_7  K) (en4 K))))))))) := by
  try unfold L4_30 at h
  unfold kj4_28
  generalize @J4_28 = Q4_28 at h ⊢
  unfold kj4_24
  generalize @J4_24 = Q4_24 at h ⊢
  unfold kj4_7
  generalize @J4_7 = Q4_7 at h ⊢
  refine code2_sound ok_mono _ _ _ ?_
  refine kmp ?_ h
  generalize Ok Try.prog = C
  unfold en4
  as_aux_lemma => kernel_rfl

noncomputable def J4_29 (x1 x2 x3 x9 x12 x13 x14 x15 x16 : LV) (g : LHeap) (N22 : LV × LV → LHeap → Prop) (K : LV → LHeap → Prop) : Prop :=
  loopP (fun s g N => L4_30 x1 x2 x3 x9 x12 x13 x14 s.1 s.2 g N N22 K) (x15, x16) g
abbrev kj4_29 (R22 : LV × LV × LV × LV × LV → LV × LV → LHeap → Prop) (K : LV → LHeap → Prop) : LSt → Prop := fun st => J4_29 (st.tm 1) (st.tm 2) (st.tm 3) (st.tm 9) (st.tm 12) (st.tm 13) (st.tm 14) (st.tm 15) (st.tm 16) st.g (fun s g => R22 ((st.tm 1), (st.tm 2), (st.tm 3), (st.tm 9), (st.tm 12)) s g) K
theorem J4_29_ok (R22 : LV × LV × LV × LV × LV → LV × LV → LHeap → Prop) (K : LV → LHeap → Prop) (tm : Nat → LV) (g : LHeap) (h : J4_29 (tm 1) (tm 2) (tm 3) (tm 9) (tm 12) (tm 13) (tm 14) (tm 15) (tm 16) g (fun s g => R22 ((tm 1), (tm 2), (tm 3), (tm 9), (tm 12)) s g) K) : codeL Try.prog (Ok Try.prog) (nd4 [1, 1, 1, 1, 1, 1, 1, 0, 1, 0, 0, 1, 0, 0, 1, 1, 1, 0, 1]) ⟨tm, g⟩ (thenL (kj4_28 R22 K) (exitL 3 (thenL (kj4_24 R22 K) (roundK (fun tm : Nat → LV => (tm 1, tm 2, tm 3, tm 9, tm 12)) (fun tm : Nat → LV => (tm 13, tm 14)) R22 (exitL 2 (thenL (kj4_7  K) (en4 K))))))) := by
  refine block_i (b := nd4 [1, 1, 1, 1, 1, 1, 1, 0, 1, 0, 0, 1, 0, 0, 1, 1, 1, 0, 1, 0]) (i := 4) (by kernel_rfl) ?_
  exact loop_glue (b := nd4 [1, 1, 1, 1, 1, 1, 1, 0, 1, 0, 0, 1, 0, 0, 1, 1, 1, 0, 1, 0, 0]) (by kernel_rfl) (fun tm : Nat → LV => (tm 1, tm 2, tm 3, tm 9, tm 12, tm 13, tm 14)) (fun tm : Nat → LV => (tm 15, tm 16)) (fun a s g N => L4_30 a.1 a.2.1 a.2.2.1 a.2.2.2.1 a.2.2.2.2.1 a.2.2.2.2.2.1 a.2.2.2.2.2.2 s.1 s.2 g N (fun s g => R22 ((a.1), (a.2.1), (a.2.2.1), (a.2.2.2.1), (a.2.2.2.2.1)) s g) K) (fun tm g R h => L4_30_ok R R22 K tm g h) tm g h

noncomputable def J4_27 (x1 x2 x3 x9 x12 x13 x14 x15 : LV) (g : LHeap) (N22 : LV × LV → LHeap → Prop) (K : LV → LHeap → Prop) : Prop :=
  J4_29 x1 x2 x3 x9 x12 x13 x14 x15 (.int .i64 (0)) g N22 K
abbrev kj4_27 (R22 : LV × LV × LV × LV × LV → LV × LV → LHeap → Prop) (K : LV → LHeap → Prop) : LSt → Prop := fun st => J4_27 (st.tm 1) (st.tm 2) (st.tm 3) (st.tm 9) (st.tm 12) (st.tm 13) (st.tm 14) (st.tm 15) st.g (fun s g => R22 ((st.tm 1), (st.tm 2), (st.tm 3), (st.tm 9), (st.tm 12)) s g) K
theorem J4_27_ok (R22 : LV × LV × LV × LV × LV → LV × LV → LHeap → Prop) (K : LV → LHeap → Prop) (tm : Nat → LV) (g : LHeap) (h : J4_27 (tm 1) (tm 2) (tm 3) (tm 9) (tm 12) (tm 13) (tm 14) (tm 15) g (fun s g => R22 ((tm 1), (tm 2), (tm 3), (tm 9), (tm 12)) s g) K) : codeL Try.prog (Ok Try.prog) (nd4 [1, 1, 1, 1, 1, 1, 1, 0, 1, 0, 0, 1, 0, 0, 1, 1, 1]) ⟨tm, g⟩ (exitL 3 (thenL (kj4_24 R22 K) (roundK (fun tm : Nat → LV => (tm 1, tm 2, tm 3, tm 9, tm 12)) (fun tm : Nat → LV => (tm 13, tm 14)) R22 (exitL 2 (thenL (kj4_7  K) (en4 K)))))) := by
  refine seq_i (a := nd4 [1, 1, 1, 1, 1, 1, 1, 0, 1, 0, 0, 1, 0, 0, 1, 1, 1, 0]) (b := nd4 [1, 1, 1, 1, 1, 1, 1, 0, 1, 0, 0, 1, 0, 0, 1, 1, 1, 1]) (k' := kj4_28 R22 K) (by kernel_rfl) (fun st h => J4_28_ok R22 K st.tm st.g h) ?_
  refine seq_i (a := nd4 [1, 1, 1, 1, 1, 1, 1, 0, 1, 0, 0, 1, 0, 0, 1, 1, 1, 0, 0]) (b := nd4 [1, 1, 1, 1, 1, 1, 1, 0, 1, 0, 0, 1, 0, 0, 1, 1, 1, 0, 1]) (k' := kj4_29 R22 K) (by kernel_rfl) (fun st h => J4_29_ok R22 K st.tm st.g h) ?_
  try unfold J4_27 at h
  unfold kj4_29
  generalize @J4_29 = Q4_29 at h ⊢
  unfold kj4_28
  generalize @J4_28 = Q4_28 at h ⊢
  unfold kj4_24
  generalize @J4_24 = Q4_24 at h ⊢
  unfold kj4_7
  generalize @J4_7 = Q4_7 at h ⊢
  refine code2_sound ok_mono _ _ _ ?_
  refine kmp ?_ h
  generalize Ok Try.prog = C
  unfold en4
  as_aux_lemma => kernel_rfl

noncomputable def J4_26 (x1 x2 x3 x9 x12 x13 x14 : LV) (g : LHeap) (N22 : LV × LV → LHeap → Prop) (K : LV → LHeap → Prop) : Prop :=
  J4_27 x1 x2 x3 x9 x12 x13 x14 .nils g N22 K
abbrev kj4_26 (R22 : LV × LV × LV × LV × LV → LV × LV → LHeap → Prop) (K : LV → LHeap → Prop) : LSt → Prop := fun st => J4_26 (st.tm 1) (st.tm 2) (st.tm 3) (st.tm 9) (st.tm 12) (st.tm 13) (st.tm 14) st.g (fun s g => R22 ((st.tm 1), (st.tm 2), (st.tm 3), (st.tm 9), (st.tm 12)) s g) K
theorem J4_26_ok (R22 : LV × LV × LV × LV × LV → LV × LV → LHeap → Prop) (K : LV → LHeap → Prop) (tm : Nat → LV) (g : LHeap) (h : J4_26 (tm 1) (tm 2) (tm 3) (tm 9) (tm 12) (tm 13) (tm 14) g (fun s g => R22 ((tm 1), (tm 2), (tm 3), (tm 9), (tm 12)) s g) K) : codeL Try.prog (Ok Try.prog) (nd4 [1, 1, 1, 1, 1, 1, 1, 0, 1, 0, 0, 1, 0, 0, 1, 1]) ⟨tm, g⟩ (exitL 3 (thenL (kj4_24 R22 K) (roundK (fun tm : Nat → LV => (tm 1, tm 2, tm 3, tm 9, tm 12)) (fun tm : Nat → LV => (tm 13, tm 14)) R22 (exitL 2 (thenL (kj4_7  K) (en4 K)))))) := by
  refine seq_i (a := nd4 [1, 1, 1, 1, 1, 1, 1, 0, 1, 0, 0, 1, 0, 0, 1, 1, 0]) (b := nd4 [1, 1, 1, 1, 1, 1, 1, 0, 1, 0, 0, 1, 0, 0, 1, 1, 1]) (k' := kj4_27 R22 K) (by kernel_rfl) (fun st h => J4_27_ok R22 K st.tm st.g h) ?_
  try unfold J4_26 at h
  unfold kj4_27
  generalize @J4_27 = Q4_27 at h ⊢
  unfold kj4_24
  generalize @J4_24 = Q4_24 at h ⊢
  unfold kj4_7
  generalize @J4_7 = Q4_7 at h ⊢
  refine code2_sound ok_mono _ _ _ ?_
  refine kmp ?_ h
  generalize Ok Try.prog = C
  unfold en4
  as_aux_lemma => kernel_rfl

noncomputable def J4_25 (x1 x2 x3 x9 x12 x13 x14 : LV) (g : LHeap) (N22 : LV × LV → LHeap → Prop) (K : LV → LHeap → Prop) : Prop :=
  vK (ixAddrL none 1 x3 x14) fun t95 =>
  vK (loadV none t95 g) fun t96 =>
  Ok Try.prog 24 [x9, t96] g fun t97 g =>
  J4_26 x1 x2 x3 x9 x12 x13 x14 g N22 K
abbrev kj4_25 (R22 : LV × LV × LV × LV × LV → LV × LV → LHeap → Prop) (K : LV → LHeap → Prop) : LSt → Prop := fun st => J4_25 (st.tm 1) (st.tm 2) (st.tm 3) (st.tm 9) (st.tm 12) (st.tm 13) (st.tm 14) st.g (fun s g => R22 ((st.tm 1), (st.tm 2), (st.tm 3), (st.tm 9), (st.tm 12)) s g) K
theorem J4_25_ok (R22 : LV × LV × LV × LV × LV → LV × LV → LHeap → Prop) (K : LV → LHeap → Prop) (tm : Nat → LV) (g : LHeap) (h : J4_25 (tm 1) (tm 2) (tm 3) (tm 9) (tm 12) (tm 13) (tm 14) g (fun s g => R22 ((tm 1), (tm 2), (tm 3), (tm 9), (tm 12)) s g) K) : codeL Try.prog (Ok Try.prog) (nd4 [1, 1, 1, 1, 1, 1, 1, 0, 1, 0, 0, 1, 0, 0, 1]) ⟨tm, g⟩ (exitL 3 (thenL (kj4_24 R22 K) (roundK (fun tm : Nat → LV => (tm 1, tm 2, tm 3, tm 9, tm 12)) (fun tm : Nat → LV => (tm 13, tm 14)) R22 (exitL 2 (thenL (kj4_7  K) (en4 K)))))) := by
  refine seq_i (a := nd4 [1, 1, 1, 1, 1, 1, 1, 0, 1, 0, 0, 1, 0, 0, 1, 0]) (b := nd4 [1, 1, 1, 1, 1, 1, 1, 0, 1, 0, 0, 1, 0, 0, 1, 1]) (k' := kj4_26 R22 K) (by kernel_rfl) (fun st h => J4_26_ok R22 K st.tm st.g h) ?_
  try unfold J4_25 at h
  unfold kj4_26
  generalize @J4_26 = Q4_26 at h ⊢
  unfold kj4_24
  generalize @J4_24 = Q4_24 at h ⊢
  unfold kj4_7
  generalize @J4_7 = Q4_7 at h ⊢
  refine code2_sound ok_mono _ _ _ ?_
  refine kmp ?_ h
  generalize Ok Try.prog = C
  unfold en4
  as_aux_lemma => kernel_rfl

noncomputable def J4_23 (x1 x2 x3 x9 x12 x13 x14 : LV) (g : LHeap) (N22 : LV × LV → LHeap → Prop) (K : LV → LHeap → Prop) : Prop :=
  Ok Try.prog 23 [x9, x12] g fun t87 g =>
  oK (builtinL Try.prog .len [24] [x13] g) fun t89 g =>
  vK (binL Try.prog .eql 3 true t89 (.int .i64 (0))) fun t90 =>
  vK (binL Try.prog .neq 4 false t87 t90) fun t91 =>
  ifB t91 (
  K (.bool false) g) (
  J4_25 x1 x2 x3 x9 x12 x13 x14 g N22 K)
abbrev kj4_23 (R22 : LV × LV × LV × LV × LV → LV × LV → LHeap → Prop) (K : LV → LHeap → Prop) : LSt → Prop := fun st => J4_23 (st.tm 1) (st.tm 2) (st.tm 3) (st.tm 9) (st.tm 12) (st.tm 13) (st.tm 14) st.g (fun s g => R22 ((st.tm 1), (st.tm 2), (st.tm 3), (st.tm 9), (st.tm 12)) s g) K
theorem J4_23_ok (R22 : LV × LV × LV × LV × LV → LV × LV → LHeap → Prop) (K : LV → LHeap → Prop) (tm : Nat → LV) (g : LHeap) (h : J4_23 (tm 1) (tm 2) (tm 3) (tm 9) (tm 12) (tm 13) (tm 14) g (fun s g => R22 ((tm 1), (tm 2), (tm 3), (tm 9), (tm 12)) s g) K) : codeL Try.prog (Ok Try.prog) (nd4 [1, 1, 1, 1, 1, 1, 1, 0, 1, 0, 0, 1]) ⟨tm, g⟩ (roundK (fun tm : Nat → LV => (tm 1, tm 2, tm 3, tm 9, tm 12)) (fun tm : Nat → LV => (tm 13, tm 14)) R22 (exitL 2 (thenL (kj4_7  K) (en4 K)))) := by
  refine seq_i (a := nd4 [1, 1, 1, 1, 1, 1, 1, 0, 1, 0, 0, 1, 0]) (b := nd4 [1, 1, 1, 1, 1, 1, 1, 0, 1, 0, 0, 1, 1]) (k' := kj4_24 R22 K) (by kernel_rfl) (fun st h => J4_24_ok R22 K st.tm st.g h) ?_
  refine block_i (b := nd4 [1, 1, 1, 1, 1, 1, 1, 0, 1, 0, 0, 1, 0, 0]) (i := 3) (by kernel_rfl) ?_
  refine seq_i (a := nd4 [1, 1, 1, 1, 1, 1, 1, 0, 1, 0, 0, 1, 0, 0, 0]) (b := nd4 [1, 1, 1, 1, 1, 1, 1, 0, 1, 0, 0, 1, 0, 0, 1]) (k' := kj4_25 R22 K) (by kernel_rfl) (fun st h => J4_25_ok R22 K st.tm st.g h) ?_
  try unfold J4_23 at h
  unfold kj4_25
  generalize @J4_25 = Q4_25 at h ⊢
  unfold kj4_24
  generalize @J4_24 = Q4_24 at h ⊢
  unfold kj4_7
  generalize @J4_7 = Q4_7 at h ⊢
  refine code2_sound ok_mono _ _ _ ?_
  refine kmp ?_ h
  generalize Ok Try.prog = C
  unfold en4
  as_aux_lemma => kernel_rfl

noncomputable def L4_22 (x1 x2 x3 x9 x12 : LV) (x13 x14 : LV) (g : LHeap) (N22 : LV × LV → LHeap → Prop) (K : LV → LHeap → Prop) : Prop :=
  oK (builtinL Try.prog .len [24] [x3] g) fun t81 g =>
  vK (binL Try.prog .lss 3 false x14 t81) fun t82 =>
  ifB t82 (
  J4_23 x1 x2 x3 x9 x12 x13 x14 g N22 K) (
  J4_7 x1 x2 x9 x12 x13 g  K)
theorem L4_22_ok (R22 : LV × LV × LV × LV × LV → LV × LV → LHeap → Prop) (K : LV → LHeap → Prop) (tm : Nat → LV) (g : LHeap) (h : L4_22 (tm 1) (tm 2) (tm 3) (tm 9) (tm 12) (tm 13) (tm 14) g (fun s g => R22 ((tm 1), (tm 2), (tm 3), (tm 9), (tm 12)) s g) K) : codeL Try.prog (Ok Try.prog) (nd4 [1, 1, 1, 1, 1, 1, 1, 0, 1, 0, 0]) ⟨tm, g⟩ (roundK (fun tm : Nat → LV => (tm 1, tm 2, tm 3, tm 9, tm 12)) (fun tm : Nat → LV => (tm 13, tm 14)) R22 (exitL 2 (thenL (kj4_7  K) (en4 K)))) := by
  refine seq_i (a := nd4 [1, 1, 1, 1, 1, 1, 1, 0, 1, 0, 0, 0]) (b := nd4 [1, 1, 1, 1, 1, 1, 1, 0, 1, 0, 0, 1]) (k' := kj4_23 R22 K) (by kernel_rfl) (fun st h => J4_23_ok R22 K st.tm st.g h) ?_
  try unfold L4_22 at h
  unfold kj4_23
  generalize @J4_23 = Q4_23 at h ⊢
  unfold kj4_7
  generalize @J4_7 = Q4_7 at h ⊢
  refine code2_sound ok_mono _ _ _ ?_
  refine kmp ?_ h
  generalize Ok Try.prog = C
  unfold en4
  as_aux_lemma => kernel_rfl

noncomputable def J4_21 (x1 x2 x3 x9 x12 x13 x14 : LV) (g : LHeap)  (K : LV → LHeap → Prop) : Prop :=
  loopP (fun s g N => L4_22 x1 x2 x3 x9 x12 s.1 s.2 g N  K) (x13, x14) g
abbrev kj4_21  (K : LV → LHeap → Prop) : LSt → Prop := fun st => J4_21 (st.tm 1) (st.tm 2) (st.tm 3) (st.tm 9) (st.tm 12) (st.tm 13) (st.tm 14) st.g  K
theorem J4_21_ok  (K : LV → LHeap → Prop) (tm : Nat → LV) (g : LHeap) (h : J4_21 (tm 1) (tm 2) (tm 3) (tm 9) (tm 12) (tm 13) (tm 14) g  K) : codeL Try.prog (Ok Try.prog) (nd4 [1, 1, 1, 1, 1, 1, 1, 0, 1]) ⟨tm, g⟩ (thenL (kj4_7  K) (en4 K)) := by
  refine block_i (b := nd4 [1, 1, 1, 1, 1, 1, 1, 0, 1, 0]) (i := 2) (by kernel_rfl) ?_
  exact loop_glue (b := nd4 [1, 1, 1, 1, 1, 1, 1, 0, 1, 0, 0]) (by kernel_rfl) (fun tm : Nat → LV => (tm 1, tm 2, tm 3, tm 9, tm 12)) (fun tm : Nat → LV => (tm 13, tm 14)) (fun a s g N => L4_22 a.1 a.2.1 a.2.2.1 a.2.2.2.1 a.2.2.2.2 s.1 s.2 g N  K) (fun tm g R h => L4_22_ok R  K tm g h) tm g h

noncomputable def J4_6 (x1 x2 x3 x9 x12 x13 : LV) (g : LHeap)  (K : LV → LHeap → Prop) : Prop :=
  J4_21 x1 x2 x3 x9 x12 x13 (.int .i64 (0)) g  K
abbrev kj4_6  (K : LV → LHeap → Prop) : LSt → Prop := fun st => J4_6 (st.tm 1) (st.tm 2) (st.tm 3) (st.tm 9) (st.tm 12) (st.tm 13) st.g  K
theorem J4_6_ok  (K : LV → LHeap → Prop) (tm : Nat → LV) (g : LHeap) (h : J4_6 (tm 1) (tm 2) (tm 3) (tm 9) (tm 12) (tm 13) g  K) : codeL Try.prog (Ok Try.prog) (nd4 [1, 1, 1, 1, 1, 1, 1]) ⟨tm, g⟩ (en4 K) := by
  refine seq_i (a := nd4 [1, 1, 1, 1, 1, 1, 1, 0]) (b := nd4 [1, 1, 1, 1, 1, 1, 1, 1]) (k' := kj4_7  K) (by kernel_rfl) (fun st h => J4_7_ok  K st.tm st.g h) ?_
  refine seq_i (a := nd4 [1, 1, 1, 1, 1, 1, 1, 0, 0]) (b := nd4 [1, 1, 1, 1, 1, 1, 1, 0, 1]) (k' := kj4_21  K) (by kernel_rfl) (fun st h => J4_21_ok  K st.tm st.g h) ?_
  try unfold J4_6 at h
  unfold kj4_21
  generalize @J4_21 = Q4_21 at h ⊢
  unfold kj4_7
  generalize @J4_7 = Q4_7 at h ⊢
  refine code2_sound ok_mono _ _ _ ?_
  refine kmp ?_ h
  generalize Ok Try.prog = C
  unfold en4
  as_aux_lemma => kernel_rfl

noncomputable def J4_5 (x1 x2 x3 x9 x12 : LV) (g : LHeap)  (K : LV → LHeap → Prop) : Prop :=
  oK (buildSliceL Try.prog 24 0 [] g) fun t76 g =>
  oK (builtinL Try.prog .append [24, 24] [t76, x2] g) fun t78 g =>
  J4_6 x1 x2 x3 x9 x12 t78 g  K
abbrev kj4_5  (K : LV → LHeap → Prop) : LSt → Prop := fun st => J4_5 (st.tm 1) (st.tm 2) (st.tm 3) (st.tm 9) (st.tm 12) st.g  K
theorem J4_5_ok  (K : LV → LHeap → Prop) (tm : Nat → LV) (g : LHeap) (h : J4_5 (tm 1) (tm 2) (tm 3) (tm 9) (tm 12) g  K) : codeL Try.prog (Ok Try.prog) (nd4 [1, 1, 1, 1, 1, 1]) ⟨tm, g⟩ (en4 K) := by
  refine seq_i (a := nd4 [1, 1, 1, 1, 1, 1, 0]) (b := nd4 [1, 1, 1, 1, 1, 1, 1]) (k' := kj4_6  K) (by kernel_rfl) (fun st h => J4_6_ok  K st.tm st.g h) ?_
  try unfold J4_5 at h
  unfold kj4_6
  generalize @J4_6 = Q4_6 at h ⊢
  refine code2_sound ok_mono _ _ _ ?_
  refine kmp ?_ h
  generalize Ok Try.prog = C
  unfold en4
  as_aux_lemma => kernel_rfl

noncomputable def J4_4 (x1 x2 x3 x9 x10 x12 : LV) (g : LHeap)  (K : LV → LHeap → Prop) : Prop :=
  vK (binL Try.prog .neq 28 true x10 (.int .i64 (0))) fun t67 =>
  ifB t67 (
  vK (binL Try.prog .eql 3 true x12 (.int .i64 (0))) fun t69 =>
  gd t69 true g (fun K => K x9 g) fun t71 g =>
  gd t69 true g (fun K => Ok Try.prog 22 [t71, (.int .i64 (0))] g K) fun t72 g =>
  gd t69 true g (fun K => oK (builtinL Try.prog .len [24] [t72] g) K) fun t73 g =>
  gd t69 true g (fun K => vK (binL Try.prog .eql 3 true t73 (.int .i64 (0))) fun v => K v g) fun t74 g =>
  vK (pickL t69 t74 (.bool false)) fun t75 =>
  K t75 g) (
  J4_5 x1 x2 x3 x9 x12 g  K)
abbrev kj4_4  (K : LV → LHeap → Prop) : LSt → Prop := fun st => J4_4 (st.tm 1) (st.tm 2) (st.tm 3) (st.tm 9) (st.tm 10) (st.tm 12) st.g  K
theorem J4_4_ok  (K : LV → LHeap → Prop) (tm : Nat → LV) (g : LHeap) (h : J4_4 (tm 1) (tm 2) (tm 3) (tm 9) (tm 10) (tm 12) g  K) : codeL Try.prog (Ok Try.prog) (nd4 [1, 1, 1, 1, 1]) ⟨tm, g⟩ (en4 K) := by
  refine seq_i (a := nd4 [1, 1, 1, 1, 1, 0]) (b := nd4 [1, 1, 1, 1, 1, 1]) (k' := kj4_5  K) (by kernel_rfl) (fun st h => J4_5_ok  K st.tm st.g h) ?_
  try unfold J4_4 at h
  unfold kj4_5
  generalize @J4_5 = Q4_5 at h ⊢
  refine code2_sound ok_mono _ _ _ ?_
  refine kmp ?_ h
  generalize Ok Try.prog = C
  unfold en4
  as_aux_lemma => kernel_rfl

noncomputable def J4_3 (x1 x2 x3 x9 : LV) (g : LHeap)  (K : LV → LHeap → Prop) : Prop :=
  Ok Try.prog 21 [x9, x1, x2] g fun t63 g =>
  vK (extractL t63 0) fun t64 =>
  vK (extractL t63 1) fun t65 =>
  J4_4 x1 x2 x3 x9 t65 t64 g  K
abbrev kj4_3  (K : LV → LHeap → Prop) : LSt → Prop := fun st => J4_3 (st.tm 1) (st.tm 2) (st.tm 3) (st.tm 9) st.g  K
theorem J4_3_ok  (K : LV → LHeap → Prop) (tm : Nat → LV) (g : LHeap) (h : J4_3 (tm 1) (tm 2) (tm 3) (tm 9) g  K) : codeL Try.prog (Ok Try.prog) (nd4 [1, 1, 1, 1]) ⟨tm, g⟩ (en4 K) := by
  refine seq_i (a := nd4 [1, 1, 1, 1, 0]) (b := nd4 [1, 1, 1, 1, 1]) (k' := kj4_4  K) (by kernel_rfl) (fun st h => J4_4_ok  K st.tm st.g h) ?_
  try unfold J4_3 at h
  unfold kj4_4
  generalize @J4_4 = Q4_4 at h ⊢
  refine code2_sound ok_mono _ _ _ ?_
  refine kmp ?_ h
  generalize Ok Try.prog = C
  unfold en4
  as_aux_lemma => kernel_rfl

noncomputable def L4_32 (x0 x1 x2 x3 x9 : LV) (x11 : LV) (g : LHeap) (N32 : LV → LHeap → Prop) (K : LV → LHeap → Prop) : Prop :=
  oK (builtinL Try.prog .len [35] [x0] g) fun t38 g =>
  vK (binL Try.prog .lss 3 false x11 t38) fun t39 =>
  ifB t39 (
  vK (ixAddrL none 7 x0 x11) fun t45 =>
  vK (fieldAddrL 1 t45) fun t46 =>
  vK (loadV none t46 g) fun t47 =>
  vK (ixAddrL none 7 x0 x11) fun t50 =>
  vK (fieldAddrL 2 t50) fun t51 =>
  vK (loadV (some 2) t51 g) fun t52 =>
  vK (ixAddrL none 7 x0 x11) fun t55 =>
  vK (fieldAddrL 4 t55) fun t56 =>
  vK (loadV none t56 g) fun t57 =>
  ((Ok Try.prog 20 [x9, t47, t52, t57] g fun t58 g =>
  
  vK (binL Try.prog .add 3 true x11 (.int .i64 (1))) fun t41 =>
  N32 t41 g) ∧ True)) (
  J4_3 x1 x2 x3 x9 g  K)
theorem L4_32_ok (R32 : LV × LV × LV × LV × LV → LV → LHeap → Prop) (K : LV → LHeap → Prop) (tm : Nat → LV) (g : LHeap) (h : L4_32 (tm 0) (tm 1) (tm 2) (tm 3) (tm 9) (tm 11) g (fun s g => R32 ((tm 0), (tm 1), (tm 2), (tm 3), (tm 9)) s g) K) : codeL Try.prog (Ok Try.prog) (nd4 [1, 1, 1, 0, 1, 0, 0]) ⟨tm, g⟩ (roundK (fun tm : Nat → LV => (tm 0, tm 1, tm 2, tm 3, tm 9)) (fun tm : Nat → LV => tm 11) R32 (exitL 0 (thenL (kj4_3  K) (en4 K)))) := by
  try unfold L4_32 at h
  unfold kj4_3
  generalize @J4_3 = Q4_3 at h ⊢
  refine code3_sound ok_mono (pl := [(7, (.lt 0 false (.lt 1 false (.lt 2 false (.lt 3 false (.lt 4 false (.lt 5 false (.lt 6 false (.lt 7 false (.lt 8 false (.lt 9 false (.lt 10 false (.lt 11 false (.lt 12 false (.lt 13 false (.lt 14 false (.lt 15 false (.hv 16 .nil .nil))))))))))))))))))]) _ _ _ (by kernel_rfl) ?_
  refine kmp ?_ h
  generalize Ok Try.prog = C
  unfold en4
  as_aux_lemma => kernel_rfl

noncomputable def J4_31 (x0 x1 x2 x3 x9 x11 : LV) (g : LHeap)  (K : LV → LHeap → Prop) : Prop :=
  loopP (fun s g N => L4_32 x0 x1 x2 x3 x9 s g N  K) x11 g
abbrev kj4_31  (K : LV → LHeap → Prop) : LSt → Prop := fun st => J4_31 (st.tm 0) (st.tm 1) (st.tm 2) (st.tm 3) (st.tm 9) (st.tm 11) st.g  K
theorem J4_31_ok  (K : LV → LHeap → Prop) (tm : Nat → LV) (g : LHeap) (h : J4_31 (tm 0) (tm 1) (tm 2) (tm 3) (tm 9) (tm 11) g  K) : codeL Try.prog (Ok Try.prog) (nd4 [1, 1, 1, 0, 1]) ⟨tm, g⟩ (thenL (kj4_3  K) (en4 K)) := by
  refine block_i (b := nd4 [1, 1, 1, 0, 1, 0]) (i := 0) (by kernel_rfl) ?_
  exact loop_glue (b := nd4 [1, 1, 1, 0, 1, 0, 0]) (by kernel_rfl) (fun tm : Nat → LV => (tm 0, tm 1, tm 2, tm 3, tm 9)) (fun tm : Nat → LV => tm 11) (fun a s g N => L4_32 a.1 a.2.1 a.2.2.1 a.2.2.2.1 a.2.2.2.2 s g N  K) (fun tm g R h => L4_32_ok R  K tm g h) tm g h

noncomputable def J4_2 (x0 x1 x2 x3 x9 : LV) (g : LHeap)  (K : LV → LHeap → Prop) : Prop :=
  J4_31 x0 x1 x2 x3 x9 (.int .i64 (0)) g  K
abbrev kj4_2  (K : LV → LHeap → Prop) : LSt → Prop := fun st => J4_2 (st.tm 0) (st.tm 1) (st.tm 2) (st.tm 3) (st.tm 9) st.g  K
theorem J4_2_ok  (K : LV → LHeap → Prop) (tm : Nat → LV) (g : LHeap) (h : J4_2 (tm 0) (tm 1) (tm 2) (tm 3) (tm 9) g  K) : codeL Try.prog (Ok Try.prog) (nd4 [1, 1, 1]) ⟨tm, g⟩ (en4 K) := by
  refine seq_i (a := nd4 [1, 1, 1, 0]) (b := nd4 [1, 1, 1, 1]) (k' := kj4_3  K) (by kernel_rfl) (fun st h => J4_3_ok  K st.tm st.g h) ?_
  refine seq_i (a := nd4 [1, 1, 1, 0, 0]) (b := nd4 [1, 1, 1, 0, 1]) (k' := kj4_31  K) (by kernel_rfl) (fun st h => J4_31_ok  K st.tm st.g h) ?_
  try unfold J4_2 at h
  unfold kj4_31
  generalize @J4_31 = Q4_31 at h ⊢
  unfold kj4_3
  generalize @J4_3 = Q4_3 at h ⊢
  refine code2_sound ok_mono _ _ _ ?_
  refine kmp ?_ h
  generalize Ok Try.prog = C
  unfold en4
  as_aux_lemma => kernel_rfl

noncomputable def J4_1 (x0 x1 x2 x3 x9 x10 : LV) (g : LHeap)  (K : LV → LHeap → Prop) : Prop :=
  vK (binL Try.prog .neq 28 true x10 (.int .i64 (0))) fun t27 =>
  gd t27 false g (fun K => K x9 g) fun t29 g =>
  gd t27 false g (fun K => vK (binL Try.prog .eql 36 true t29 .nilp) fun v => K v g) fun t30 g =>
  vK (pickL t27 (.bool true) t30) fun t31 =>
  gd t31 false g (fun K => Ok Try.prog 19 [] g K) fun t33 g =>
  gd t31 false g (fun K => vK (unL .not t33) fun v => K v g) fun t34 g =>
  vK (pickL t31 (.bool true) t34) fun t35 =>
  ifB t35 (
  K (.bool false) g) (
  J4_2 x0 x1 x2 x3 x9 g  K)
abbrev kj4_1  (K : LV → LHeap → Prop) : LSt → Prop := fun st => J4_1 (st.tm 0) (st.tm 1) (st.tm 2) (st.tm 3) (st.tm 9) (st.tm 10) st.g  K
theorem J4_1_ok  (K : LV → LHeap → Prop) (tm : Nat → LV) (g : LHeap) (h : J4_1 (tm 0) (tm 1) (tm 2) (tm 3) (tm 9) (tm 10) g  K) : codeL Try.prog (Ok Try.prog) (nd4 [1, 1]) ⟨tm, g⟩ (en4 K) := by
  refine seq_i (a := nd4 [1, 1, 0]) (b := nd4 [1, 1, 1]) (k' := kj4_2  K) (by kernel_rfl) (fun st h => J4_2_ok  K st.tm st.g h) ?_
  try unfold J4_1 at h
  unfold kj4_2
  generalize @J4_2 = Q4_2 at h ⊢
  refine code2_sound ok_mono _ _ _ ?_
  refine kmp ?_ h
  generalize Ok Try.prog = C
  unfold en4
  as_aux_lemma => kernel_rfl

noncomputable def J4_0 (x0 x1 x2 x3 : LV) (g : LHeap)  (K : LV → LHeap → Prop) : Prop :=
  Ok Try.prog 18 [(.int .i64 (4)), (.int .i64 (8))] g fun t23 g =>
  vK (extractL t23 0) fun t24 =>
  vK (extractL t23 1) fun t25 =>
  J4_1 x0 x1 x2 x3 t24 t25 g  K
abbrev kj4_0  (K : LV → LHeap → Prop) : LSt → Prop := fun st => J4_0 (st.tm 0) (st.tm 1) (st.tm 2) (st.tm 3) st.g  K
theorem J4_0_ok  (K : LV → LHeap → Prop) (tm : Nat → LV) (g : LHeap) (h : J4_0 (tm 0) (tm 1) (tm 2) (tm 3) g  K) : codeL Try.prog (Ok Try.prog) (nd4 [1]) ⟨tm, g⟩ (en4 K) := by
  refine seq_i (a := nd4 [1, 0]) (b := nd4 [1, 1]) (k' := kj4_1  K) (by kernel_rfl) (fun st h => J4_1_ok  K st.tm st.g h) ?_
  try unfold J4_0 at h
  unfold kj4_1
  generalize @J4_1 = Q4_1 at h ⊢
  refine code2_sound ok_mono _ _ _ ?_
  refine kmp ?_ h
  generalize Ok Try.prog = C
  unfold en4
  as_aux_lemma => kernel_rfl

noncomputable def F4 (x0 x1 x2 x3 : LV) (g : LHeap) (K : LV → LHeap → Prop) : Prop :=
  J4_0 x0 x1 x2 x3 g  K
theorem ok4 {x0 x1 x2 x3 : LV} {g : LHeap} {K : LV → LHeap → Prop} (h : g.Wf → (∀ v ∈ ([x0, x1, x2, x3] : List LV), ∀ b ∈ v.objs, b < g.next) → F4 x0 x1 x2 x3 g K) : Ok Try.prog 4 [x0, x1, x2, x3] g K := by
  refine ok_fw Try.mixed Try.func4 (by kernel_rfl) (by kernel_rfl) (c := nd4 []) (by kernel_rfl) fun wf lt => ?_
  rw [← en4_eq]
  replace h := h wf lt
  generalize hs : startL _ = tm
  replace h : F4 (tm 0) (tm 1) (tm 2) (tm 3) g K := by rw [← hs]; exact h
  refine seq_i (a := nd4 [0]) (b := nd4 [1]) (k' := kj4_0  K) (by kernel_rfl) (fun st h => J4_0_ok  K st.tm st.g h) ?_
  try unfold F4 at h
  unfold kj4_0
  generalize @J4_0 = Q4_0 at h ⊢
  refine code2_sound ok_mono _ _ _ ?_
  refine kmp ?_ h
  generalize Ok Try.prog = C
  unfold en4
  as_aux_lemma => kernel_rfl

/-! parapet/parapetlaw07.TlbApart (157 slots) -/
noncomputable def en6 (K : LV → LHeap → Prop) : LEx → LSt → Prop := fun e st => match e with
  | .exit _ => False
  | _ => K (st.tm 4) st.g
theorem en6_eq (K : LV → LHeap → Prop) : en6 K = endL Try.prog Try.f6 K := by
  funext e st
  cases e <;> kernel_rfl
noncomputable def nd6 (p : List Nat) : Code := subC p (bodyC Try.prog 6)
noncomputable def J6_7 (g : LHeap)  (K : LV → LHeap → Prop) : Prop :=
  K (.bool true) g
abbrev kj6_7  (K : LV → LHeap → Prop) : LSt → Prop := fun st => J6_7  st.g  K
theorem J6_7_ok  (K : LV → LHeap → Prop) (tm : Nat → LV) (g : LHeap) (h : J6_7  g  K) : codeL Try.prog (Ok Try.prog) (nd6 [1, 1, 1, 1, 1, 1, 1, 1]) ⟨tm, g⟩ (en6 K) := by
  try unfold J6_7 at h
  refine code2_sound ok_mono _ _ _ ?_
  refine kmp ?_ h
  generalize Ok Try.prog = C
  unfold en6
  as_aux_lemma => kernel_rfl

noncomputable def L6_9 (x1 x5 x7 x11 x12 : LV) (x13 : LV) (g : LHeap) (N9 : LV → LHeap → Prop) (K : LV → LHeap → Prop) : Prop :=
  oK (builtinL Try.prog .len [50] [x11] g) fun t111 g =>
  vK (binL Try.prog .lss 3 false x13 t111) fun t112 =>
  ifB t112 (
  vK (ixAddrL none 2 x11 x13) fun t120 =>
  vK (loadV (some 2) t120 g) fun t121 =>
  Ok Try.prog 31 [x5, x1, t121] g fun t122 g =>
  vK (extractL t122 0) fun t123 =>
  vK (extractL t122 1) fun t124 =>
  vK (ixAddrL none 2 x12 x13) fun t130 =>
  vK (loadV (some 2) t130 g) fun t131 =>
  Ok Try.prog 31 [x7, x1, t131] g fun t132 g =>
  vK (extractL t132 0) fun t133 =>
  vK (extractL t132 1) fun t134 =>
  vK (ixAddrL none 2 x11 x13) fun t137 =>
  vK (loadV (some 2) t137 g) fun t138 =>
  vK (ixAddrL none 2 x12 x13) fun t141 =>
  vK (loadV (some 2) t141 g) fun t142 =>
  vK (binL Try.prog .neq 41 false t138 t142) fun t143 =>
  gdV t143 false (some t123) fun t145 =>
  gdV t143 false (some t133) fun t146 =>
  gdV t143 false (binL Try.prog .neq 42 false t145 t146) fun t147 =>
  vK (pickL t143 (.bool true) t147) fun t148 =>
  gdV t148 false (some t124) fun t150 =>
  gdV t148 false (unL .not t150) fun t151 =>
  vK (pickL t148 (.bool true) t151) fun t152 =>
  gdV t152 false (some t134) fun t154 =>
  gdV t152 false (unL .not t154) fun t155 =>
  vK (pickL t152 (.bool true) t155) fun t156 =>
  ifB t156 (
  K (.bool false) g) (
  vK (binL Try.prog .add 3 true x13 (.int .i64 (1))) fun t114 =>
  N9 t114 g)) (
  J6_7  g  K)
theorem L6_9_ok (R9 : LV × LV × LV × LV × LV → LV → LHeap → Prop) (K : LV → LHeap → Prop) (tm : Nat → LV) (g : LHeap) (h : L6_9 (tm 1) (tm 5) (tm 7) (tm 11) (tm 12) (tm 13) g (fun s g => R9 ((tm 1), (tm 5), (tm 7), (tm 11), (tm 12)) s g) K) : codeL Try.prog (Ok Try.prog) (nd6 [1, 1, 1, 1, 1, 1, 1, 0, 1, 0, 0]) ⟨tm, g⟩ (roundK (fun tm : Nat → LV => (tm 1, tm 5, tm 7, tm 11, tm 12)) (fun tm : Nat → LV => tm 13) R9 (exitL 2 (thenL (kj6_7  K) (en6 K)))) := by
  try unfold L6_9 at h
  unfold kj6_7
  generalize @J6_7 = Q6_7 at h ⊢
  refine code3_sound ok_mono (pl := [(25, (.lt 0 false (.lt 1 false (.lt 2 false (.lt 3 false (.lt 4 false (.lt 5 false (.lt 6 false (.lt 7 false (.lt 8 false (.lt 9 false (.lt 10 false (.lt 11 false (.lt 12 false (.lt 13 false (.lt 14 false (.lt 15 false (.lt 16 false (.lt 17 false (.lt 18 false (.lt 19 false (.lt 20 false (.lt 21 false .nil)))))))))))))))))))))))]) _ _ _ (by kernel_rfl) ?_
  refine kmp ?_ h
  generalize Ok Try.prog = C
  unfold en6
  as_aux_lemma => kernel_rfl

noncomputable def J6_8 (x1 x5 x7 x11 x12 x13 : LV) (g : LHeap)  (K : LV → LHeap → Prop) : Prop :=
  loopP (fun s g N => L6_9 x1 x5 x7 x11 x12 s g N  K) x13 g
abbrev kj6_8  (K : LV → LHeap → Prop) : LSt → Prop := fun st => J6_8 (st.tm 1) (st.tm 5) (st.tm 7) (st.tm 11) (st.tm 12) (st.tm 13) st.g  K
theorem J6_8_ok  (K : LV → LHeap → Prop) (tm : Nat → LV) (g : LHeap) (h : J6_8 (tm 1) (tm 5) (tm 7) (tm 11) (tm 12) (tm 13) g  K) : codeL Try.prog (Ok Try.prog) (nd6 [1, 1, 1, 1, 1, 1, 1, 0, 1]) ⟨tm, g⟩ (thenL (kj6_7  K) (en6 K)) := by
  refine block_i (b := nd6 [1, 1, 1, 1, 1, 1, 1, 0, 1, 0]) (i := 2) (by kernel_rfl) ?_
  exact loop_glue (b := nd6 [1, 1, 1, 1, 1, 1, 1, 0, 1, 0, 0]) (by kernel_rfl) (fun tm : Nat → LV => (tm 1, tm 5, tm 7, tm 11, tm 12)) (fun tm : Nat → LV => tm 13) (fun a s g N => L6_9 a.1 a.2.1 a.2.2.1 a.2.2.2.1 a.2.2.2.2 s g N  K) (fun tm g R h => L6_9_ok R  K tm g h) tm g h

noncomputable def J6_6 (x1 x5 x7 x11 x12 : LV) (g : LHeap)  (K : LV → LHeap → Prop) : Prop :=
  J6_8 x1 x5 x7 x11 x12 (.int .i64 (0)) g  K
abbrev kj6_6  (K : LV → LHeap → Prop) : LSt → Prop := fun st => J6_6 (st.tm 1) (st.tm 5) (st.tm 7) (st.tm 11) (st.tm 12) st.g  K
theorem J6_6_ok  (K : LV → LHeap → Prop) (tm : Nat → LV) (g : LHeap) (h : J6_6 (tm 1) (tm 5) (tm 7) (tm 11) (tm 12) g  K) : codeL Try.prog (Ok Try.prog) (nd6 [1, 1, 1, 1, 1, 1, 1]) ⟨tm, g⟩ (en6 K) := by
  refine seq_i (a := nd6 [1, 1, 1, 1, 1, 1, 1, 0]) (b := nd6 [1, 1, 1, 1, 1, 1, 1, 1]) (k' := kj6_7  K) (by kernel_rfl) (fun st h => J6_7_ok  K st.tm st.g h) ?_
  refine seq_i (a := nd6 [1, 1, 1, 1, 1, 1, 1, 0, 0]) (b := nd6 [1, 1, 1, 1, 1, 1, 1, 0, 1]) (k' := kj6_8  K) (by kernel_rfl) (fun st h => J6_8_ok  K st.tm st.g h) ?_
  try unfold J6_6 at h
  unfold kj6_8
  generalize @J6_8 = Q6_8 at h ⊢
  unfold kj6_7
  generalize @J6_7 = Q6_7 at h ⊢
  refine code2_sound ok_mono _ _ _ ?_
  refine kmp ?_ h
  generalize Ok Try.prog = C
  unfold en6
  as_aux_lemma => kernel_rfl

noncomputable def J6_5 (x1 x5 x7 x11 x12 : LV) (g : LHeap)  (K : LV → LHeap → Prop) : Prop :=
  oK (builtinL Try.prog .len [50] [x11] g) fun t105 g =>
  oK (builtinL Try.prog .len [50] [x12] g) fun t107 g =>
  vK (binL Try.prog .neq 3 false t105 t107) fun t108 =>
  ifB t108 (
  K (.bool false) g) (
  J6_6 x1 x5 x7 x11 x12 g  K)
abbrev kj6_5  (K : LV → LHeap → Prop) : LSt → Prop := fun st => J6_5 (st.tm 1) (st.tm 5) (st.tm 7) (st.tm 11) (st.tm 12) st.g  K
theorem J6_5_ok  (K : LV → LHeap → Prop) (tm : Nat → LV) (g : LHeap) (h : J6_5 (tm 1) (tm 5) (tm 7) (tm 11) (tm 12) g  K) : codeL Try.prog (Ok Try.prog) (nd6 [1, 1, 1, 1, 1, 1]) ⟨tm, g⟩ (en6 K) := by
  refine seq_i (a := nd6 [1, 1, 1, 1, 1, 1, 0]) (b := nd6 [1, 1, 1, 1, 1, 1, 1]) (k' := kj6_6  K) (by kernel_rfl) (fun st h => J6_6_ok  K st.tm st.g h) ?_
  try unfold J6_5 at h
  unfold kj6_6
  generalize @J6_6 = Q6_6 at h ⊢
  refine code2_sound ok_mono _ _ _ ?_
  refine kmp ?_ h
  generalize Ok Try.prog = C
  unfold en6
  as_aux_lemma => kernel_rfl

noncomputable def J6_4 (x1 x5 x7 : LV) (g : LHeap)  (K : LV → LHeap → Prop) : Prop :=
  Ok Try.prog 25 [x5, x1] g fun t100 g =>
  Ok Try.prog 25 [x7, x1] g fun t103 g =>
  J6_5 x1 x5 x7 t100 t103 g  K
abbrev kj6_4  (K : LV → LHeap → Prop) : LSt → Prop := fun st => J6_4 (st.tm 1) (st.tm 5) (st.tm 7) st.g  K
theorem J6_4_ok  (K : LV → LHeap → Prop) (tm : Nat → LV) (g : LHeap) (h : J6_4 (tm 1) (tm 5) (tm 7) g  K) : codeL Try.prog (Ok Try.prog) (nd6 [1, 1, 1, 1, 1]) ⟨tm, g⟩ (en6 K) := by
  refine seq_i (a := nd6 [1, 1, 1, 1, 1, 0]) (b := nd6 [1, 1, 1, 1, 1, 1]) (k' := kj6_5  K) (by kernel_rfl) (fun st h => J6_5_ok  K st.tm st.g h) ?_
  try unfold J6_4 at h
  unfold kj6_5
  generalize @J6_5 = Q6_5 at h ⊢
  refine code2_sound ok_mono _ _ _ ?_
  refine kmp ?_ h
  generalize Ok Try.prog = C
  unfold en6
  as_aux_lemma => kernel_rfl

noncomputable def J6_13 (x0 x1 x5 x7 x9 : LV) (g : LHeap) (N11 : LV → LHeap → Prop) (K : LV → LHeap → Prop) : Prop :=
  vK (binL Try.prog .add 3 true x9 (.int .i64 (1))) fun t49 =>
  N11 t49 g
abbrev kj6_13 (R11 : LV × LV × LV × LV → LV → LHeap → Prop) (K : LV → LHeap → Prop) : LSt → Prop := fun st => J6_13 (st.tm 0) (st.tm 1) (st.tm 5) (st.tm 7) (st.tm 9) st.g (fun s g => R11 ((st.tm 0), (st.tm 1), (st.tm 5), (st.tm 7)) s g) K
theorem J6_13_ok (R11 : LV × LV × LV × LV → LV → LHeap → Prop) (K : LV → LHeap → Prop) (tm : Nat → LV) (g : LHeap) (h : J6_13 (tm 0) (tm 1) (tm 5) (tm 7) (tm 9) g (fun s g => R11 ((tm 0), (tm 1), (tm 5), (tm 7)) s g) K) : codeL Try.prog (Ok Try.prog) (nd6 [1, 1, 1, 1, 0, 1, 0, 0, 1, 1]) ⟨tm, g⟩ (roundK (fun tm : Nat → LV => (tm 0, tm 1, tm 5, tm 7)) (fun tm : Nat → LV => tm 9) R11 (exitL 0 (thenL (kj6_4  K) (en6 K)))) := by
  try unfold J6_13 at h
  unfold kj6_4
  generalize @J6_4 = Q6_4 at h ⊢
  refine code2_sound ok_mono _ _ _ ?_
  refine kmp ?_ h
  generalize Ok Try.prog = C
  unfold en6
  as_aux_lemma => kernel_rfl

noncomputable def J6_15 (x0 x1 x5 x7 x9 x10 : LV) (g : LHeap) (N11 : LV → LHeap → Prop) (K : LV → LHeap → Prop) : Prop :=
  vK (fieldAddrL 0 x10) fun t77 =>
  vK (loadV none t77 g) fun t78 =>
  vK (binL Try.prog .eql 3 true t78 (.int .i64 (3))) fun t79 =>
  ifB t79 (
  vK (fieldAddrL 1 x10) fun t81 =>
  vK (loadV none t81 g) fun t82 =>
  vK (fieldAddrL 2 x10) fun t83 =>
  vK (fieldAddrL 0 t83) fun t84 =>
  vK (loadV none t84 g) fun t85 =>
  Ok Try.prog 30 [x5, t82, t85] g fun t86 g =>
  vK (fieldAddrL 1 x10) fun t87 =>
  vK (loadV none t87 g) fun t88 =>
  vK (binL Try.prog .eql 3 false t88 x1) fun t90 =>
  ifB t90 (
  vK (fieldAddrL 1 x10) fun t92 =>
  vK (loadV none t92 g) fun t93 =>
  vK (fieldAddrL 2 x10) fun t94 =>
  vK (fieldAddrL 0 t94) fun t95 =>
  vK (loadV none t95 g) fun t96 =>
  Ok Try.prog 30 [x7, t93, t96] g fun t97 g =>
  J6_13 x0 x1 x5 x7 x9 g N11 K) (
  J6_13 x0 x1 x5 x7 x9 g N11 K)) (
  J6_13 x0 x1 x5 x7 x9 g N11 K)
abbrev kj6_15 (R11 : LV × LV × LV × LV → LV → LHeap → Prop) (K : LV → LHeap → Prop) : LSt → Prop := fun st => J6_15 (st.tm 0) (st.tm 1) (st.tm 5) (st.tm 7) (st.tm 9) (st.tm 10) st.g (fun s g => R11 ((st.tm 0), (st.tm 1), (st.tm 5), (st.tm 7)) s g) K
theorem J6_15_ok (R11 : LV × LV × LV × LV → LV → LHeap → Prop) (K : LV → LHeap → Prop) (tm : Nat → LV) (g : LHeap) (h : J6_15 (tm 0) (tm 1) (tm 5) (tm 7) (tm 9) (tm 10) g (fun s g => R11 ((tm 0), (tm 1), (tm 5), (tm 7)) s g) K) : codeL Try.prog (Ok Try.prog) (nd6 [1, 1, 1, 1, 0, 1, 0, 0, 1, 0, 0, 1, 1]) ⟨tm, g⟩ (exitL 1 (thenL (kj6_13 R11 K) (roundK (fun tm : Nat → LV => (tm 0, tm 1, tm 5, tm 7)) (fun tm : Nat → LV => tm 9) R11 (exitL 0 (thenL (kj6_4  K) (en6 K)))))) := by
  try unfold J6_15 at h
  unfold kj6_13
  generalize @J6_13 = Q6_13 at h ⊢
  unfold kj6_4
  generalize @J6_4 = Q6_4 at h ⊢
  refine code2_sound ok_mono _ _ _ ?_
  refine kmp ?_ h
  generalize Ok Try.prog = C
  unfold en6
  as_aux_lemma => kernel_rfl

noncomputable def J6_14 (x0 x1 x5 x7 x9 x10 : LV) (g : LHeap) (N11 : LV → LHeap → Prop) (K : LV → LHeap → Prop) : Prop :=
  vK (fieldAddrL 0 x10) fun t54 =>
  vK (loadV none t54 g) fun t55 =>
  vK (binL Try.prog .eql 3 true t55 (.int .i64 (2))) fun t56 =>
  ifB t56 (
  vK (fieldAddrL 1 x10) fun t58 =>
  vK (loadV none t58 g) fun t59 =>
  vK (fieldAddrL 2 x10) fun t60 =>
  vK (loadV (some 2) t60 g) fun t61 =>
  vK (fieldAddrL 4 x10) fun t62 =>
  vK (loadV none t62 g) fun t63 =>
  Ok Try.prog 20 [x5, t59, t61, t63] g fun t64 g =>
  vK (fieldAddrL 1 x10) fun t65 =>
  vK (loadV none t65 g) fun t66 =>
  vK (binL Try.prog .eql 3 false t66 x1) fun t68 =>
  ifB t68 (
  vK (fieldAddrL 1 x10) fun t70 =>
  vK (loadV none t70 g) fun t71 =>
  vK (fieldAddrL 2 x10) fun t72 =>
  vK (loadV (some 2) t72 g) fun t73 =>
  vK (fieldAddrL 4 x10) fun t74 =>
  vK (loadV none t74 g) fun t75 =>
  Ok Try.prog 20 [x7, t71, t73, t75] g fun t76 g =>
  J6_15 x0 x1 x5 x7 x9 x10 g N11 K) (
  J6_15 x0 x1 x5 x7 x9 x10 g N11 K)) (
  J6_15 x0 x1 x5 x7 x9 x10 g N11 K)
abbrev kj6_14 (R11 : LV × LV × LV × LV → LV → LHeap → Prop) (K : LV → LHeap → Prop) : LSt → Prop := fun st => J6_14 (st.tm 0) (st.tm 1) (st.tm 5) (st.tm 7) (st.tm 9) (st.tm 10) st.g (fun s g => R11 ((st.tm 0), (st.tm 1), (st.tm 5), (st.tm 7)) s g) K
theorem J6_14_ok (R11 : LV × LV × LV × LV → LV → LHeap → Prop) (K : LV → LHeap → Prop) (tm : Nat → LV) (g : LHeap) (h : J6_14 (tm 0) (tm 1) (tm 5) (tm 7) (tm 9) (tm 10) g (fun s g => R11 ((tm 0), (tm 1), (tm 5), (tm 7)) s g) K) : codeL Try.prog (Ok Try.prog) (nd6 [1, 1, 1, 1, 0, 1, 0, 0, 1, 0, 0, 1]) ⟨tm, g⟩ (exitL 1 (thenL (kj6_13 R11 K) (roundK (fun tm : Nat → LV => (tm 0, tm 1, tm 5, tm 7)) (fun tm : Nat → LV => tm 9) R11 (exitL 0 (thenL (kj6_4  K) (en6 K)))))) := by
  refine seq_i (a := nd6 [1, 1, 1, 1, 0, 1, 0, 0, 1, 0, 0, 1, 0]) (b := nd6 [1, 1, 1, 1, 0, 1, 0, 0, 1, 0, 0, 1, 1]) (k' := kj6_15 R11 K) (by kernel_rfl) (fun st h => J6_15_ok R11 K st.tm st.g h) ?_
  try unfold J6_14 at h
  unfold kj6_15
  generalize @J6_15 = Q6_15 at h ⊢
  unfold kj6_13
  generalize @J6_13 = Q6_13 at h ⊢
  unfold kj6_4
  generalize @J6_4 = Q6_4 at h ⊢
  refine code2_sound ok_mono _ _ _ ?_
  refine kmp ?_ h
  generalize Ok Try.prog = C
  unfold en6
  as_aux_lemma => kernel_rfl

noncomputable def J6_12 (x0 x1 x5 x7 x9 : LV) (g : LHeap) (N11 : LV → LHeap → Prop) (K : LV → LHeap → Prop) : Prop :=
  vK (ixAddrL none 7 x0 x9) fun t52 =>
  vK (loadV (some 7) t52 g) fun t53 =>
  oK (newL (.agg [(.int .i64 (0)), (.int .i64 (0)), (.int .i64 (0)), (.int .i64 (0)), (.int .u32 (0)), (.int .i64 (0)), .nils]) g) fun t10 g =>
  gK (storeV 7 t10 t53 g) fun g =>
  J6_14 x0 x1 x5 x7 x9 t10 g N11 K
abbrev kj6_12 (R11 : LV × LV × LV × LV → LV → LHeap → Prop) (K : LV → LHeap → Prop) : LSt → Prop := fun st => J6_12 (st.tm 0) (st.tm 1) (st.tm 5) (st.tm 7) (st.tm 9) st.g (fun s g => R11 ((st.tm 0), (st.tm 1), (st.tm 5), (st.tm 7)) s g) K
theorem J6_12_ok (R11 : LV × LV × LV × LV → LV → LHeap → Prop) (K : LV → LHeap → Prop) (tm : Nat → LV) (g : LHeap) (h : J6_12 (tm 0) (tm 1) (tm 5) (tm 7) (tm 9) g (fun s g => R11 ((tm 0), (tm 1), (tm 5), (tm 7)) s g) K) : codeL Try.prog (Ok Try.prog) (nd6 [1, 1, 1, 1, 0, 1, 0, 0, 1]) ⟨tm, g⟩ (roundK (fun tm : Nat → LV => (tm 0, tm 1, tm 5, tm 7)) (fun tm : Nat → LV => tm 9) R11 (exitL 0 (thenL (kj6_4  K) (en6 K)))) := by
  refine seq_i (a := nd6 [1, 1, 1, 1, 0, 1, 0, 0, 1, 0]) (b := nd6 [1, 1, 1, 1, 0, 1, 0, 0, 1, 1]) (k' := kj6_13 R11 K) (by kernel_rfl) (fun st h => J6_13_ok R11 K st.tm st.g h) ?_
  refine block_i (b := nd6 [1, 1, 1, 1, 0, 1, 0, 0, 1, 0, 0]) (i := 1) (by kernel_rfl) ?_
  refine seq_i (a := nd6 [1, 1, 1, 1, 0, 1, 0, 0, 1, 0, 0, 0]) (b := nd6 [1, 1, 1, 1, 0, 1, 0, 0, 1, 0, 0, 1]) (k' := kj6_14 R11 K) (by kernel_rfl) (fun st h => J6_14_ok R11 K st.tm st.g h) ?_
  try unfold J6_12 at h
  unfold kj6_14
  generalize @J6_14 = Q6_14 at h ⊢
  unfold kj6_13
  generalize @J6_13 = Q6_13 at h ⊢
  unfold kj6_4
  generalize @J6_4 = Q6_4 at h ⊢
  refine code2_sound ok_mono _ _ _ ?_
  refine kmp ?_ h
  generalize Ok Try.prog = C
  unfold en6
  as_aux_lemma => kernel_rfl

noncomputable def L6_11 (x0 x1 x5 x7 : LV) (x9 : LV) (g : LHeap) (N11 : LV → LHeap → Prop) (K : LV → LHeap → Prop) : Prop :=
  oK (builtinL Try.prog .len [35] [x0] g) fun t46 g =>
  vK (binL Try.prog .lss 3 false x9 t46) fun t47 =>
  ifB t47 (
  J6_12 x0 x1 x5 x7 x9 g N11 K) (
  J6_4 x1 x5 x7 g  K)
theorem L6_11_ok (R11 : LV × LV × LV × LV → LV → LHeap → Prop) (K : LV → LHeap → Prop) (tm : Nat → LV) (g : LHeap) (h : L6_11 (tm 0) (tm 1) (tm 5) (tm 7) (tm 9) g (fun s g => R11 ((tm 0), (tm 1), (tm 5), (tm 7)) s g) K) : codeL Try.prog (Ok Try.prog) (nd6 [1, 1, 1, 1, 0, 1, 0, 0]) ⟨tm, g⟩ (roundK (fun tm : Nat → LV => (tm 0, tm 1, tm 5, tm 7)) (fun tm : Nat → LV => tm 9) R11 (exitL 0 (thenL (kj6_4  K) (en6 K)))) := by
  refine seq_i (a := nd6 [1, 1, 1, 1, 0, 1, 0, 0, 0]) (b := nd6 [1, 1, 1, 1, 0, 1, 0, 0, 1]) (k' := kj6_12 R11 K) (by kernel_rfl) (fun st h => J6_12_ok R11 K st.tm st.g h) ?_
  try unfold L6_11 at h
  unfold kj6_12
  generalize @J6_12 = Q6_12 at h ⊢
  unfold kj6_4
  generalize @J6_4 = Q6_4 at h ⊢
  refine code2_sound ok_mono _ _ _ ?_
  refine kmp ?_ h
  generalize Ok Try.prog = C
  unfold en6
  as_aux_lemma => kernel_rfl

noncomputable def J6_10 (x0 x1 x5 x7 x9 : LV) (g : LHeap)  (K : LV → LHeap → Prop) : Prop :=
  loopP (fun s g N => L6_11 x0 x1 x5 x7 s g N  K) x9 g
abbrev kj6_10  (K : LV → LHeap → Prop) : LSt → Prop := fun st => J6_10 (st.tm 0) (st.tm 1) (st.tm 5) (st.tm 7) (st.tm 9) st.g  K
theorem J6_10_ok  (K : LV → LHeap → Prop) (tm : Nat → LV) (g : LHeap) (h : J6_10 (tm 0) (tm 1) (tm 5) (tm 7) (tm 9) g  K) : codeL Try.prog (Ok Try.prog) (nd6 [1, 1, 1, 1, 0, 1]) ⟨tm, g⟩ (thenL (kj6_4  K) (en6 K)) := by
  refine block_i (b := nd6 [1, 1, 1, 1, 0, 1, 0]) (i := 0) (by kernel_rfl) ?_
  exact loop_glue (b := nd6 [1, 1, 1, 1, 0, 1, 0, 0]) (by kernel_rfl) (fun tm : Nat → LV => (tm 0, tm 1, tm 5, tm 7)) (fun tm : Nat → LV => tm 9) (fun a s g N => L6_11 a.1 a.2.1 a.2.2.1 a.2.2.2 s g N  K) (fun tm g R h => L6_11_ok R  K tm g h) tm g h

noncomputable def J6_3 (x0 x1 x5 x7 : LV) (g : LHeap)  (K : LV → LHeap → Prop) : Prop :=
  J6_10 x0 x1 x5 x7 (.int .i64 (0)) g  K
abbrev kj6_3  (K : LV → LHeap → Prop) : LSt → Prop := fun st => J6_3 (st.tm 0) (st.tm 1) (st.tm 5) (st.tm 7) st.g  K
theorem J6_3_ok  (K : LV → LHeap → Prop) (tm : Nat → LV) (g : LHeap) (h : J6_3 (tm 0) (tm 1) (tm 5) (tm 7) g  K) : codeL Try.prog (Ok Try.prog) (nd6 [1, 1, 1, 1]) ⟨tm, g⟩ (en6 K) := by
  refine seq_i (a := nd6 [1, 1, 1, 1, 0]) (b := nd6 [1, 1, 1, 1, 1]) (k' := kj6_4  K) (by kernel_rfl) (fun st h => J6_4_ok  K st.tm st.g h) ?_
  refine seq_i (a := nd6 [1, 1, 1, 1, 0, 0]) (b := nd6 [1, 1, 1, 1, 0, 1]) (k' := kj6_10  K) (by kernel_rfl) (fun st h => J6_10_ok  K st.tm st.g h) ?_
  try unfold J6_3 at h
  unfold kj6_10
  generalize @J6_10 = Q6_10 at h ⊢
  unfold kj6_4
  generalize @J6_4 = Q6_4 at h ⊢
  refine code2_sound ok_mono _ _ _ ?_
  refine kmp ?_ h
  generalize Ok Try.prog = C
  unfold en6
  as_aux_lemma => kernel_rfl

noncomputable def J6_2 (x0 x1 x5 x6 x7 x8 : LV) (g : LHeap)  (K : LV → LHeap → Prop) : Prop :=
  vK (binL Try.prog .neq 28 true x6 (.int .i64 (0))) fun t27 =>
  gd t27 false g (fun K => K x8 g) fun t29 g =>
  gd t27 false g (fun K => vK (binL Try.prog .neq 28 true t29 (.int .i64 (0))) fun v => K v g) fun t30 g =>
  vK (pickL t27 (.bool true) t30) fun t31 =>
  gd t31 false g (fun K => K x5 g) fun t33 g =>
  gd t31 false g (fun K => vK (binL Try.prog .eql 36 true t33 .nilp) fun v => K v g) fun t34 g =>
  vK (pickL t31 (.bool true) t34) fun t35 =>
  gd t35 false g (fun K => K x7 g) fun t37 g =>
  gd t35 false g (fun K => vK (binL Try.prog .eql 36 true t37 .nilp) fun v => K v g) fun t38 g =>
  vK (pickL t35 (.bool true) t38) fun t39 =>
  gd t39 false g (fun K => Ok Try.prog 19 [] g K) fun t41 g =>
  gd t39 false g (fun K => vK (unL .not t41) fun v => K v g) fun t42 g =>
  vK (pickL t39 (.bool true) t42) fun t43 =>
  ifB t43 (
  K (.bool false) g) (
  J6_3 x0 x1 x5 x7 g  K)
abbrev kj6_2  (K : LV → LHeap → Prop) : LSt → Prop := fun st => J6_2 (st.tm 0) (st.tm 1) (st.tm 5) (st.tm 6) (st.tm 7) (st.tm 8) st.g  K
theorem J6_2_ok  (K : LV → LHeap → Prop) (tm : Nat → LV) (g : LHeap) (h : J6_2 (tm 0) (tm 1) (tm 5) (tm 6) (tm 7) (tm 8) g  K) : codeL Try.prog (Ok Try.prog) (nd6 [1, 1, 1]) ⟨tm, g⟩ (en6 K) := by
  refine seq_i (a := nd6 [1, 1, 1, 0]) (b := nd6 [1, 1, 1, 1]) (k' := kj6_3  K) (by kernel_rfl) (fun st h => J6_3_ok  K st.tm st.g h) ?_
  try unfold J6_2 at h
  unfold kj6_3
  generalize @J6_3 = Q6_3 at h ⊢
  refine code2_sound ok_mono _ _ _ ?_
  refine kmp ?_ h
  generalize Ok Try.prog = C
  unfold en6
  as_aux_lemma => kernel_rfl

noncomputable def J6_1 (x0 x1 x5 x6 : LV) (g : LHeap)  (K : LV → LHeap → Prop) : Prop :=
  Ok Try.prog 18 [(.int .i64 (3)), (.int .i64 (4))] g fun t23 g =>
  vK (extractL t23 0) fun t24 =>
  vK (extractL t23 1) fun t25 =>
  J6_2 x0 x1 x5 x6 t24 t25 g  K
abbrev kj6_1  (K : LV → LHeap → Prop) : LSt → Prop := fun st => J6_1 (st.tm 0) (st.tm 1) (st.tm 5) (st.tm 6) st.g  K
theorem J6_1_ok  (K : LV → LHeap → Prop) (tm : Nat → LV) (g : LHeap) (h : J6_1 (tm 0) (tm 1) (tm 5) (tm 6) g  K) : codeL Try.prog (Ok Try.prog) (nd6 [1, 1]) ⟨tm, g⟩ (en6 K) := by
  refine seq_i (a := nd6 [1, 1, 0]) (b := nd6 [1, 1, 1]) (k' := kj6_2  K) (by kernel_rfl) (fun st h => J6_2_ok  K st.tm st.g h) ?_
  try unfold J6_1 at h
  unfold kj6_2
  generalize @J6_2 = Q6_2 at h ⊢
  refine code2_sound ok_mono _ _ _ ?_
  refine kmp ?_ h
  generalize Ok Try.prog = C
  unfold en6
  as_aux_lemma => kernel_rfl

noncomputable def J6_0 (x0 x1 : LV) (g : LHeap)  (K : LV → LHeap → Prop) : Prop :=
  Ok Try.prog 18 [(.int .i64 (3)), (.int .i64 (4))] g fun t19 g =>
  vK (extractL t19 0) fun t20 =>
  vK (extractL t19 1) fun t21 =>
  J6_1 x0 x1 t20 t21 g  K
abbrev kj6_0  (K : LV → LHeap → Prop) : LSt → Prop := fun st => J6_0 (st.tm 0) (st.tm 1) st.g  K
theorem J6_0_ok  (K : LV → LHeap → Prop) (tm : Nat → LV) (g : LHeap) (h : J6_0 (tm 0) (tm 1) g  K) : codeL Try.prog (Ok Try.prog) (nd6 [1]) ⟨tm, g⟩ (en6 K) := by
  refine seq_i (a := nd6 [1, 0]) (b := nd6 [1, 1]) (k' := kj6_1  K) (by kernel_rfl) (fun st h => J6_1_ok  K st.tm st.g h) ?_
  try unfold J6_0 at h
  unfold kj6_1
  generalize @J6_1 = Q6_1 at h ⊢
  refine code2_sound ok_mono _ _ _ ?_
  refine kmp ?_ h
  generalize Ok Try.prog = C
  unfold en6
  as_aux_lemma => kernel_rfl

noncomputable def F6 (x0 x1 : LV) (g : LHeap) (K : LV → LHeap → Prop) : Prop :=
  J6_0 x0 x1 g  K
theorem ok6 {x0 x1 : LV} {g : LHeap} {K : LV → LHeap → Prop} (h : g.Wf → (∀ v ∈ ([x0, x1] : List LV), ∀ b ∈ v.objs, b < g.next) → F6 x0 x1 g K) : Ok Try.prog 6 [x0, x1] g K := by
  refine ok_fw Try.mixed Try.func6 (by kernel_rfl) (by kernel_rfl) (c := nd6 []) (by kernel_rfl) fun wf lt => ?_
  rw [← en6_eq]
  replace h := h wf lt
  generalize hs : startL _ = tm
  replace h : F6 (tm 0) (tm 1) g K := by rw [← hs]; exact h
  refine seq_i (a := nd6 [0]) (b := nd6 [1]) (k' := kj6_0  K) (by kernel_rfl) (fun st h => J6_0_ok  K st.tm st.g h) ?_
  try unfold F6 at h
  unfold kj6_0
  generalize @J6_0 = Q6_0 at h ⊢
  refine code2_sound ok_mono _ _ _ ?_
  refine kmp ?_ h
  generalize Ok Try.prog = C
  unfold en6
  as_aux_lemma => kernel_rfl

/-! parapet/parapetlaw07.TlbForgets (121 slots) -/
noncomputable def en7 (K : LV → LHeap → Prop) : LEx → LSt → Prop := fun e st => match e with
  | .exit _ => False
  | _ => K (st.tm 4) st.g
theorem en7_eq (K : LV → LHeap → Prop) : en7 K = endL Try.prog Try.f7 K := by
  funext e st
  cases e <;> kernel_rfl
noncomputable def nd7 (p : List Nat) : Code := subC p (bodyC Try.prog 7)
noncomputable def J7_4 (g : LHeap)  (K : LV → LHeap → Prop) : Prop :=
  K (.bool true) g
abbrev kj7_4  (K : LV → LHeap → Prop) : LSt → Prop := fun st => J7_4  st.g  K
theorem J7_4_ok  (K : LV → LHeap → Prop) (tm : Nat → LV) (g : LHeap) (h : J7_4  g  K) : codeL Try.prog (Ok Try.prog) (nd7 [1, 1, 1, 1, 1]) ⟨tm, g⟩ (en7 K) := by
  try unfold J7_4 at h
  refine code2_sound ok_mono _ _ _ ?_
  refine kmp ?_ h
  generalize Ok Try.prog = C
  unfold en7
  as_aux_lemma => kernel_rfl

noncomputable def J7_8 (x1 x5 x8 : LV) (g : LHeap) (N6 : LV → LHeap → Prop) (K : LV → LHeap → Prop) : Prop :=
  vK (binL Try.prog .add 3 true x8 (.int .i64 (1))) fun t56 =>
  N6 t56 g
abbrev kj7_8 (R6 : LV × LV → LV → LHeap → Prop) (K : LV → LHeap → Prop) : LSt → Prop := fun st => J7_8 (st.tm 1) (st.tm 5) (st.tm 8) st.g (fun s g => R6 ((st.tm 1), (st.tm 5)) s g) K
theorem J7_8_ok (R6 : LV × LV → LV → LHeap → Prop) (K : LV → LHeap → Prop) (tm : Nat → LV) (g : LHeap) (h : J7_8 (tm 1) (tm 5) (tm 8) g (fun s g => R6 ((tm 1), (tm 5)) s g) K) : codeL Try.prog (Ok Try.prog) (nd7 [1, 1, 1, 1, 0, 1, 0, 0, 1, 1]) ⟨tm, g⟩ (roundK (fun tm : Nat → LV => (tm 1, tm 5)) (fun tm : Nat → LV => tm 8) R6 (exitL 2 (thenL (kj7_4  K) (en7 K)))) := by
  try unfold J7_8 at h
  unfold kj7_4
  generalize @J7_4 = Q7_4 at h ⊢
  refine code2_sound ok_mono _ _ _ ?_
  refine kmp ?_ h
  generalize Ok Try.prog = C
  unfold en7
  as_aux_lemma => kernel_rfl

noncomputable def J7_13 (x1 x5 x8 x9 x10 x11 x12 : LV) (g : LHeap) (N6 : LV → LHeap → Prop) (K : LV → LHeap → Prop) : Prop :=
  oK (builtinL Try.prog .len [50] [x11] g) fun t110 g =>
  vK (binL Try.prog .neq 3 false x12 t110) fun t111 =>
  gd t111 false g (fun K => K x10 g) fun t113 g =>
  gd t111 false g (fun K => K x9 g) fun t114 g =>
  gd t111 false g (fun K => oK (builtinL Try.prog .len [50] [t114] g) K) fun t115 g =>
  gd t111 false g (fun K => K x11 g) fun t116 g =>
  gd t111 false g (fun K => oK (builtinL Try.prog .len [50] [t116] g) K) fun t117 g =>
  gd t111 false g (fun K => vK (binL Try.prog .sub 3 false t115 t117) fun v => K v g) fun t118 g =>
  gd t111 false g (fun K => vK (binL Try.prog .neq 3 false t113 t118) fun v => K v g) fun t119 g =>
  vK (pickL t111 (.bool true) t119) fun t120 =>
  ifB t120 (
  K (.bool false) g) (
  J7_8 x1 x5 x8 g N6 K)
abbrev kj7_13 (R6 : LV × LV → LV → LHeap → Prop) (K : LV → LHeap → Prop) : LSt → Prop := fun st => J7_13 (st.tm 1) (st.tm 5) (st.tm 8) (st.tm 9) (st.tm 10) (st.tm 11) (st.tm 12) st.g (fun s g => R6 ((st.tm 1), (st.tm 5)) s g) K
theorem J7_13_ok (R6 : LV × LV → LV → LHeap → Prop) (K : LV → LHeap → Prop) (tm : Nat → LV) (g : LHeap) (h : J7_13 (tm 1) (tm 5) (tm 8) (tm 9) (tm 10) (tm 11) (tm 12) g (fun s g => R6 ((tm 1), (tm 5)) s g) K) : codeL Try.prog (Ok Try.prog) (nd7 [1, 1, 1, 1, 0, 1, 0, 0, 1, 0, 0, 1, 1, 1, 1, 1]) ⟨tm, g⟩ (exitL 3 (thenL (kj7_8 R6 K) (roundK (fun tm : Nat → LV => (tm 1, tm 5)) (fun tm : Nat → LV => tm 8) R6 (exitL 2 (thenL (kj7_4  K) (en7 K)))))) := by
  try unfold J7_13 at h
  unfold kj7_8
  generalize @J7_8 = Q7_8 at h ⊢
  unfold kj7_4
  generalize @J7_4 = Q7_4 at h ⊢
  refine code2_sound ok_mono _ _ _ ?_
  refine kmp ?_ h
  generalize Ok Try.prog = C
  unfold en7
  as_aux_lemma => kernel_rfl

noncomputable def L7_15 (x1 x5 x8 x9 x10 x11 : LV) (x12 x13 : LV) (g : LHeap) (N15 : LV × LV → LHeap → Prop) (N6 : LV → LHeap → Prop) (K : LV → LHeap → Prop) : Prop :=
  oK (builtinL Try.prog .len [50] [x9] g) fun t69 g =>
  vK (binL Try.prog .lss 3 false x13 t69) fun t70 =>
  ifB t70 (
  vK (ixAddrL none 2 x9 x13) fun t75 =>
  vK (fieldAddrL 0 t75) fun t76 =>
  vK (loadV none t76 g) fun t77 =>
  vK (binL Try.prog .eql 3 false t77 x1) fun t79 =>
  ifB t79 (
  vK (ixAddrL none 2 x9 x13) fun t85 =>
  vK (loadV (some 2) t85 g) fun t86 =>
  Ok Try.prog 31 [x5, x8, t86] g fun t87 g =>
  vK (extractL t87 0) fun t88 =>
  vK (extractL t87 1) fun t89 =>
  ifB t89 (
  K (.bool false) g) (
  vK (binL Try.prog .add 3 true x13 (.int .i64 (1))) fun t72 =>
  N15 (x12, t72) g)) (
  vK (lenL Try.prog 50 x11 g) fun t93 =>
  vK (binL Try.prog .geq 3 false x12 t93) fun t94 =>
  gdV t94 false (some x11) fun t96 =>
  gdV t94 false (some x12) fun t97 =>
  gdV t94 false (ixAddrL none 2 t96 t97) fun t98 =>
  gdV t94 false (loadV (some 2) t98 g) fun t99 =>
  gdV t94 false (some x9) fun t100 =>
  gdV t94 false (some x13) fun t101 =>
  gdV t94 false (ixAddrL none 2 t100 t101) fun t102 =>
  gdV t94 false (loadV (some 2) t102 g) fun t103 =>
  gdV t94 false (binL Try.prog .neq 41 false t99 t103) fun t104 =>
  vK (pickL t94 (.bool true) t104) fun t105 =>
  ifB t105 (
  K (.bool false) g) (
  vK (binL Try.prog .add 3 true x12 (.int .i64 (1))) fun t107 =>
  vK (binL Try.prog .add 3 true x13 (.int .i64 (1))) fun t72 =>
  N15 (t107, t72) g))) (
  J7_13 x1 x5 x8 x9 x10 x11 x12 g N6 K)
theorem L7_15_ok (R15 : LV × LV × LV × LV × LV × LV → LV × LV → LHeap → Prop) (R6 : LV × LV → LV → LHeap → Prop) (K : LV → LHeap → Prop) (tm : Nat → LV) (g : LHeap) (h : L7_15 (tm 1) (tm 5) (tm 8) (tm 9) (tm 10) (tm 11) (tm 12) (tm 13) g (fun s g => R15 ((tm 1), (tm 5), (tm 8), (tm 9), (tm 10), (tm 11)) s g) (fun s g => R6 ((tm 1), (tm 5)) s g) K) : codeL Try.prog (Ok Try.prog) (nd7 [1, 1, 1, 1, 0, 1, 0, 0, 1, 0, 0, 1, 1, 1, 1, 0, 1, 0, 0]) ⟨tm, g⟩ (roundK (fun tm : Nat → LV => (tm 1, tm 5, tm 8, tm 9, tm 10, tm 11)) (fun tm : Nat → LV => (tm 12, tm 13)) R15 (exitL 4 (thenL (kj7_13 R6 K) (exitL 3 (thenL (kj7_8 R6 K) (roundK (fun tm : Nat → LV => (tm 1, tm 5)) (fun tm : Nat → LV => tm 8) R6 (exitL 2 (thenL (kj7_4  K) (en7 K))))))))) := by
  try unfold L7_15 at h
  unfold kj7_13
  generalize @J7_13 = Q7_13 at h ⊢
  unfold kj7_8
  generalize @J7_8 = Q7_8 at h ⊢
  unfold kj7_4
  generalize @J7_4 = Q7_4 at h ⊢
  refine code3_sound ok_mono (pl := [(22, (.lt 0 false (.lt 1 false (.lt 2 false (.lt 3 false (.lt 4 false (.lt 5 false (.lt 6 false (.lt 7 false (.lt 8 false (.lt 9 false (.lt 10 false (.lt 11 false (.lt 12 false (.lt 13 false (.lt 14 false .nil))))))))))))))))]) _ _ _ (by kernel_rfl) ?_
  refine kmp ?_ h
  generalize Ok Try.prog = C
  unfold en7
  as_aux_lemma => kernel_rfl

noncomputable def J7_14 (x1 x5 x8 x9 x10 x11 x12 x13 : LV) (g : LHeap) (N6 : LV → LHeap → Prop) (K : LV → LHeap → Prop) : Prop :=
  loopP (fun s g N => L7_15 x1 x5 x8 x9 x10 x11 s.1 s.2 g N N6 K) (x12, x13) g
abbrev kj7_14 (R6 : LV × LV → LV → LHeap → Prop) (K : LV → LHeap → Prop) : LSt → Prop := fun st => J7_14 (st.tm 1) (st.tm 5) (st.tm 8) (st.tm 9) (st.tm 10) (st.tm 11) (st.tm 12) (st.tm 13) st.g (fun s g => R6 ((st.tm 1), (st.tm 5)) s g) K
theorem J7_14_ok (R6 : LV × LV → LV → LHeap → Prop) (K : LV → LHeap → Prop) (tm : Nat → LV) (g : LHeap) (h : J7_14 (tm 1) (tm 5) (tm 8) (tm 9) (tm 10) (tm 11) (tm 12) (tm 13) g (fun s g => R6 ((tm 1), (tm 5)) s g) K) : codeL Try.prog (Ok Try.prog) (nd7 [1, 1, 1, 1, 0, 1, 0, 0, 1, 0, 0, 1, 1, 1, 1, 0, 1]) ⟨tm, g⟩ (thenL (kj7_13 R6 K) (exitL 3 (thenL (kj7_8 R6 K) (roundK (fun tm : Nat → LV => (tm 1, tm 5)) (fun tm : Nat → LV => tm 8) R6 (exitL 2 (thenL (kj7_4  K) (en7 K))))))) := by
  refine block_i (b := nd7 [1, 1, 1, 1, 0, 1, 0, 0, 1, 0, 0, 1, 1, 1, 1, 0, 1, 0]) (i := 4) (by kernel_rfl) ?_
  exact loop_glue (b := nd7 [1, 1, 1, 1, 0, 1, 0, 0, 1, 0, 0, 1, 1, 1, 1, 0, 1, 0, 0]) (by kernel_rfl) (fun tm : Nat → LV => (tm 1, tm 5, tm 8, tm 9, tm 10, tm 11)) (fun tm : Nat → LV => (tm 12, tm 13)) (fun a s g N => L7_15 a.1 a.2.1 a.2.2.1 a.2.2.2.1 a.2.2.2.2.1 a.2.2.2.2.2 s.1 s.2 g N (fun s g => R6 ((a.1), (a.2.1)) s g) K) (fun tm g R h => L7_15_ok R R6 K tm g h) tm g h

noncomputable def J7_12 (x1 x5 x8 x9 x10 x11 x12 : LV) (g : LHeap) (N6 : LV → LHeap → Prop) (K : LV → LHeap → Prop) : Prop :=
  J7_14 x1 x5 x8 x9 x10 x11 x12 (.int .i64 (0)) g N6 K
abbrev kj7_12 (R6 : LV × LV → LV → LHeap → Prop) (K : LV → LHeap → Prop) : LSt → Prop := fun st => J7_12 (st.tm 1) (st.tm 5) (st.tm 8) (st.tm 9) (st.tm 10) (st.tm 11) (st.tm 12) st.g (fun s g => R6 ((st.tm 1), (st.tm 5)) s g) K
theorem J7_12_ok (R6 : LV × LV → LV → LHeap → Prop) (K : LV → LHeap → Prop) (tm : Nat → LV) (g : LHeap) (h : J7_12 (tm 1) (tm 5) (tm 8) (tm 9) (tm 10) (tm 11) (tm 12) g (fun s g => R6 ((tm 1), (tm 5)) s g) K) : codeL Try.prog (Ok Try.prog) (nd7 [1, 1, 1, 1, 0, 1, 0, 0, 1, 0, 0, 1, 1, 1, 1]) ⟨tm, g⟩ (exitL 3 (thenL (kj7_8 R6 K) (roundK (fun tm : Nat → LV => (tm 1, tm 5)) (fun tm : Nat → LV => tm 8) R6 (exitL 2 (thenL (kj7_4  K) (en7 K)))))) := by
  refine seq_i (a := nd7 [1, 1, 1, 1, 0, 1, 0, 0, 1, 0, 0, 1, 1, 1, 1, 0]) (b := nd7 [1, 1, 1, 1, 0, 1, 0, 0, 1, 0, 0, 1, 1, 1, 1, 1]) (k' := kj7_13 R6 K) (by kernel_rfl) (fun st h => J7_13_ok R6 K st.tm st.g h) ?_
  refine seq_i (a := nd7 [1, 1, 1, 1, 0, 1, 0, 0, 1, 0, 0, 1, 1, 1, 1, 0, 0]) (b := nd7 [1, 1, 1, 1, 0, 1, 0, 0, 1, 0, 0, 1, 1, 1, 1, 0, 1]) (k' := kj7_14 R6 K) (by kernel_rfl) (fun st h => J7_14_ok R6 K st.tm st.g h) ?_
  try unfold J7_12 at h
  unfold kj7_14
  generalize @J7_14 = Q7_14 at h ⊢
  unfold kj7_13
  generalize @J7_13 = Q7_13 at h ⊢
  unfold kj7_8
  generalize @J7_8 = Q7_8 at h ⊢
  unfold kj7_4
  generalize @J7_4 = Q7_4 at h ⊢
  refine code2_sound ok_mono _ _ _ ?_
  refine kmp ?_ h
  generalize Ok Try.prog = C
  unfold en7
  as_aux_lemma => kernel_rfl

noncomputable def J7_11 (x1 x5 x8 x9 x10 x11 : LV) (g : LHeap) (N6 : LV → LHeap → Prop) (K : LV → LHeap → Prop) : Prop :=
  J7_12 x1 x5 x8 x9 x10 x11 (.int .i64 (0)) g N6 K
abbrev kj7_11 (R6 : LV × LV → LV → LHeap → Prop) (K : LV → LHeap → Prop) : LSt → Prop := fun st => J7_11 (st.tm 1) (st.tm 5) (st.tm 8) (st.tm 9) (st.tm 10) (st.tm 11) st.g (fun s g => R6 ((st.tm 1), (st.tm 5)) s g) K
theorem J7_11_ok (R6 : LV × LV → LV → LHeap → Prop) (K : LV → LHeap → Prop) (tm : Nat → LV) (g : LHeap) (h : J7_11 (tm 1) (tm 5) (tm 8) (tm 9) (tm 10) (tm 11) g (fun s g => R6 ((tm 1), (tm 5)) s g) K) : codeL Try.prog (Ok Try.prog) (nd7 [1, 1, 1, 1, 0, 1, 0, 0, 1, 0, 0, 1, 1, 1]) ⟨tm, g⟩ (exitL 3 (thenL (kj7_8 R6 K) (roundK (fun tm : Nat → LV => (tm 1, tm 5)) (fun tm : Nat → LV => tm 8) R6 (exitL 2 (thenL (kj7_4  K) (en7 K)))))) := by
  refine seq_i (a := nd7 [1, 1, 1, 1, 0, 1, 0, 0, 1, 0, 0, 1, 1, 1, 0]) (b := nd7 [1, 1, 1, 1, 0, 1, 0, 0, 1, 0, 0, 1, 1, 1, 1]) (k' := kj7_12 R6 K) (by kernel_rfl) (fun st h => J7_12_ok R6 K st.tm st.g h) ?_
  try unfold J7_11 at h
  unfold kj7_12
  generalize @J7_12 = Q7_12 at h ⊢
  unfold kj7_8
  generalize @J7_8 = Q7_8 at h ⊢
  unfold kj7_4
  generalize @J7_4 = Q7_4 at h ⊢
  refine code2_sound ok_mono _ _ _ ?_
  refine kmp ?_ h
  generalize Ok Try.prog = C
  unfold en7
  as_aux_lemma => kernel_rfl

noncomputable def J7_10 (x1 x5 x8 x9 x10 : LV) (g : LHeap) (N6 : LV → LHeap → Prop) (K : LV → LHeap → Prop) : Prop :=
  Ok Try.prog 25 [x5, x8] g fun t66 g =>
  J7_11 x1 x5 x8 x9 x10 t66 g N6 K
abbrev kj7_10 (R6 : LV × LV → LV → LHeap → Prop) (K : LV → LHeap → Prop) : LSt → Prop := fun st => J7_10 (st.tm 1) (st.tm 5) (st.tm 8) (st.tm 9) (st.tm 10) st.g (fun s g => R6 ((st.tm 1), (st.tm 5)) s g) K
theorem J7_10_ok (R6 : LV × LV → LV → LHeap → Prop) (K : LV → LHeap → Prop) (tm : Nat → LV) (g : LHeap) (h : J7_10 (tm 1) (tm 5) (tm 8) (tm 9) (tm 10) g (fun s g => R6 ((tm 1), (tm 5)) s g) K) : codeL Try.prog (Ok Try.prog) (nd7 [1, 1, 1, 1, 0, 1, 0, 0, 1, 0, 0, 1, 1]) ⟨tm, g⟩ (exitL 3 (thenL (kj7_8 R6 K) (roundK (fun tm : Nat → LV => (tm 1, tm 5)) (fun tm : Nat → LV => tm 8) R6 (exitL 2 (thenL (kj7_4  K) (en7 K)))))) := by
  refine seq_i (a := nd7 [1, 1, 1, 1, 0, 1, 0, 0, 1, 0, 0, 1, 1, 0]) (b := nd7 [1, 1, 1, 1, 0, 1, 0, 0, 1, 0, 0, 1, 1, 1]) (k' := kj7_11 R6 K) (by kernel_rfl) (fun st h => J7_11_ok R6 K st.tm st.g h) ?_
  try unfold J7_10 at h
  unfold kj7_11
  generalize @J7_11 = Q7_11 at h ⊢
  unfold kj7_8
  generalize @J7_8 = Q7_8 at h ⊢
  unfold kj7_4
  generalize @J7_4 = Q7_4 at h ⊢
  refine code2_sound ok_mono _ _ _ ?_
  refine kmp ?_ h
  generalize Ok Try.prog = C
  unfold en7
  as_aux_lemma => kernel_rfl

noncomputable def J7_9 (x1 x5 x8 x9 : LV) (g : LHeap) (N6 : LV → LHeap → Prop) (K : LV → LHeap → Prop) : Prop :=
  Ok Try.prog 30 [x5, x8, x1] g fun t63 g =>
  J7_10 x1 x5 x8 x9 t63 g N6 K
abbrev kj7_9 (R6 : LV × LV → LV → LHeap → Prop) (K : LV → LHeap → Prop) : LSt → Prop := fun st => J7_9 (st.tm 1) (st.tm 5) (st.tm 8) (st.tm 9) st.g (fun s g => R6 ((st.tm 1), (st.tm 5)) s g) K
theorem J7_9_ok (R6 : LV × LV → LV → LHeap → Prop) (K : LV → LHeap → Prop) (tm : Nat → LV) (g : LHeap) (h : J7_9 (tm 1) (tm 5) (tm 8) (tm 9) g (fun s g => R6 ((tm 1), (tm 5)) s g) K) : codeL Try.prog (Ok Try.prog) (nd7 [1, 1, 1, 1, 0, 1, 0, 0, 1, 0, 0, 1]) ⟨tm, g⟩ (exitL 3 (thenL (kj7_8 R6 K) (roundK (fun tm : Nat → LV => (tm 1, tm 5)) (fun tm : Nat → LV => tm 8) R6 (exitL 2 (thenL (kj7_4  K) (en7 K)))))) := by
  refine seq_i (a := nd7 [1, 1, 1, 1, 0, 1, 0, 0, 1, 0, 0, 1, 0]) (b := nd7 [1, 1, 1, 1, 0, 1, 0, 0, 1, 0, 0, 1, 1]) (k' := kj7_10 R6 K) (by kernel_rfl) (fun st h => J7_10_ok R6 K st.tm st.g h) ?_
  try unfold J7_9 at h
  unfold kj7_10
  generalize @J7_10 = Q7_10 at h ⊢
  unfold kj7_8
  generalize @J7_8 = Q7_8 at h ⊢
  unfold kj7_4
  generalize @J7_4 = Q7_4 at h ⊢
  refine code2_sound ok_mono _ _ _ ?_
  refine kmp ?_ h
  generalize Ok Try.prog = C
  unfold en7
  as_aux_lemma => kernel_rfl

noncomputable def J7_7 (x1 x5 x8 : LV) (g : LHeap) (N6 : LV → LHeap → Prop) (K : LV → LHeap → Prop) : Prop :=
  Ok Try.prog 25 [x5, x8] g fun t59 g =>
  J7_9 x1 x5 x8 t59 g N6 K
abbrev kj7_7 (R6 : LV × LV → LV → LHeap → Prop) (K : LV → LHeap → Prop) : LSt → Prop := fun st => J7_7 (st.tm 1) (st.tm 5) (st.tm 8) st.g (fun s g => R6 ((st.tm 1), (st.tm 5)) s g) K
theorem J7_7_ok (R6 : LV × LV → LV → LHeap → Prop) (K : LV → LHeap → Prop) (tm : Nat → LV) (g : LHeap) (h : J7_7 (tm 1) (tm 5) (tm 8) g (fun s g => R6 ((tm 1), (tm 5)) s g) K) : codeL Try.prog (Ok Try.prog) (nd7 [1, 1, 1, 1, 0, 1, 0, 0, 1]) ⟨tm, g⟩ (roundK (fun tm : Nat → LV => (tm 1, tm 5)) (fun tm : Nat → LV => tm 8) R6 (exitL 2 (thenL (kj7_4  K) (en7 K)))) := by
  refine seq_i (a := nd7 [1, 1, 1, 1, 0, 1, 0, 0, 1, 0]) (b := nd7 [1, 1, 1, 1, 0, 1, 0, 0, 1, 1]) (k' := kj7_8 R6 K) (by kernel_rfl) (fun st h => J7_8_ok R6 K st.tm st.g h) ?_
  refine block_i (b := nd7 [1, 1, 1, 1, 0, 1, 0, 0, 1, 0, 0]) (i := 3) (by kernel_rfl) ?_
  refine seq_i (a := nd7 [1, 1, 1, 1, 0, 1, 0, 0, 1, 0, 0, 0]) (b := nd7 [1, 1, 1, 1, 0, 1, 0, 0, 1, 0, 0, 1]) (k' := kj7_9 R6 K) (by kernel_rfl) (fun st h => J7_9_ok R6 K st.tm st.g h) ?_
  try unfold J7_7 at h
  unfold kj7_9
  generalize @J7_9 = Q7_9 at h ⊢
  unfold kj7_8
  generalize @J7_8 = Q7_8 at h ⊢
  unfold kj7_4
  generalize @J7_4 = Q7_4 at h ⊢
  refine code2_sound ok_mono _ _ _ ?_
  refine kmp ?_ h
  generalize Ok Try.prog = C
  unfold en7
  as_aux_lemma => kernel_rfl

noncomputable def L7_6 (x1 x5 : LV) (x8 : LV) (g : LHeap) (N6 : LV → LHeap → Prop) (K : LV → LHeap → Prop) : Prop :=
  vK (binL Try.prog .lss 3 true x8 (.int .i64 (4))) fun t54 =>
  ifB t54 (
  J7_7 x1 x5 x8 g N6 K) (
  J7_4  g  K)
theorem L7_6_ok (R6 : LV × LV → LV → LHeap → Prop) (K : LV → LHeap → Prop) (tm : Nat → LV) (g : LHeap) (h : L7_6 (tm 1) (tm 5) (tm 8) g (fun s g => R6 ((tm 1), (tm 5)) s g) K) : codeL Try.prog (Ok Try.prog) (nd7 [1, 1, 1, 1, 0, 1, 0, 0]) ⟨tm, g⟩ (roundK (fun tm : Nat → LV => (tm 1, tm 5)) (fun tm : Nat → LV => tm 8) R6 (exitL 2 (thenL (kj7_4  K) (en7 K)))) := by
  refine seq_i (a := nd7 [1, 1, 1, 1, 0, 1, 0, 0, 0]) (b := nd7 [1, 1, 1, 1, 0, 1, 0, 0, 1]) (k' := kj7_7 R6 K) (by kernel_rfl) (fun st h => J7_7_ok R6 K st.tm st.g h) ?_
  try unfold L7_6 at h
  unfold kj7_7
  generalize @J7_7 = Q7_7 at h ⊢
  unfold kj7_4
  generalize @J7_4 = Q7_4 at h ⊢
  refine code2_sound ok_mono _ _ _ ?_
  refine kmp ?_ h
  generalize Ok Try.prog = C
  unfold en7
  as_aux_lemma => kernel_rfl

noncomputable def J7_5 (x1 x5 x8 : LV) (g : LHeap)  (K : LV → LHeap → Prop) : Prop :=
  loopP (fun s g N => L7_6 x1 x5 s g N  K) x8 g
abbrev kj7_5  (K : LV → LHeap → Prop) : LSt → Prop := fun st => J7_5 (st.tm 1) (st.tm 5) (st.tm 8) st.g  K
theorem J7_5_ok  (K : LV → LHeap → Prop) (tm : Nat → LV) (g : LHeap) (h : J7_5 (tm 1) (tm 5) (tm 8) g  K) : codeL Try.prog (Ok Try.prog) (nd7 [1, 1, 1, 1, 0, 1]) ⟨tm, g⟩ (thenL (kj7_4  K) (en7 K)) := by
  refine block_i (b := nd7 [1, 1, 1, 1, 0, 1, 0]) (i := 2) (by kernel_rfl) ?_
  exact loop_glue (b := nd7 [1, 1, 1, 1, 0, 1, 0, 0]) (by kernel_rfl) (fun tm : Nat → LV => (tm 1, tm 5)) (fun tm : Nat → LV => tm 8) (fun a s g N => L7_6 a.1 a.2 s g N  K) (fun tm g R h => L7_6_ok R  K tm g h) tm g h

noncomputable def J7_3 (x1 x5 : LV) (g : LHeap)  (K : LV → LHeap → Prop) : Prop :=
  J7_5 x1 x5 (.int .i64 (0)) g  K
abbrev kj7_3  (K : LV → LHeap → Prop) : LSt → Prop := fun st => J7_3 (st.tm 1) (st.tm 5) st.g  K
theorem J7_3_ok  (K : LV → LHeap → Prop) (tm : Nat → LV) (g : LHeap) (h : J7_3 (tm 1) (tm 5) g  K) : codeL Try.prog (Ok Try.prog) (nd7 [1, 1, 1, 1]) ⟨tm, g⟩ (en7 K) := by
  refine seq_i (a := nd7 [1, 1, 1, 1, 0]) (b := nd7 [1, 1, 1, 1, 1]) (k' := kj7_4  K) (by kernel_rfl) (fun st h => J7_4_ok  K st.tm st.g h) ?_
  refine seq_i (a := nd7 [1, 1, 1, 1, 0, 0]) (b := nd7 [1, 1, 1, 1, 0, 1]) (k' := kj7_5  K) (by kernel_rfl) (fun st h => J7_5_ok  K st.tm st.g h) ?_
  try unfold J7_3 at h
  unfold kj7_5
  generalize @J7_5 = Q7_5 at h ⊢
  unfold kj7_4
  generalize @J7_4 = Q7_4 at h ⊢
  refine code2_sound ok_mono _ _ _ ?_
  refine kmp ?_ h
  generalize Ok Try.prog = C
  unfold en7
  as_aux_lemma => kernel_rfl

noncomputable def L7_17 (x0 x1 x5 : LV) (x7 : LV) (g : LHeap) (N17 : LV → LHeap → Prop) (K : LV → LHeap → Prop) : Prop :=
  oK (builtinL Try.prog .len [35] [x0] g) fun t32 g =>
  vK (binL Try.prog .lss 3 false x7 t32) fun t33 =>
  ifB t33 (
  vK (ixAddrL none 7 x0 x7) fun t39 =>
  vK (fieldAddrL 1 t39) fun t40 =>
  vK (loadV none t40 g) fun t41 =>
  vK (ixAddrL none 7 x0 x7) fun t44 =>
  vK (fieldAddrL 2 t44) fun t45 =>
  vK (loadV (some 2) t45 g) fun t46 =>
  vK (ixAddrL none 7 x0 x7) fun t49 =>
  vK (fieldAddrL 4 t49) fun t50 =>
  vK (loadV none t50 g) fun t51 =>
  ((Ok Try.prog 20 [x5, t41, t46, t51] g fun t52 g =>
  
  vK (binL Try.prog .add 3 true x7 (.int .i64 (1))) fun t35 =>
  N17 t35 g) ∧ True)) (
  J7_3 x1 x5 g  K)
theorem L7_17_ok (R17 : LV × LV × LV → LV → LHeap → Prop) (K : LV → LHeap → Prop) (tm : Nat → LV) (g : LHeap) (h : L7_17 (tm 0) (tm 1) (tm 5) (tm 7) g (fun s g => R17 ((tm 0), (tm 1), (tm 5)) s g) K) : codeL Try.prog (Ok Try.prog) (nd7 [1, 1, 1, 0, 1, 0, 0]) ⟨tm, g⟩ (roundK (fun tm : Nat → LV => (tm 0, tm 1, tm 5)) (fun tm : Nat → LV => tm 7) R17 (exitL 0 (thenL (kj7_3  K) (en7 K)))) := by
  try unfold L7_17 at h
  unfold kj7_3
  generalize @J7_3 = Q7_3 at h ⊢
  refine code3_sound ok_mono (pl := [(7, (.lt 0 false (.lt 1 false (.lt 2 false (.lt 3 false (.lt 4 false (.lt 5 false (.lt 6 false (.lt 7 false (.lt 8 false (.lt 9 false (.lt 10 false (.lt 11 false (.lt 12 false (.lt 13 false (.lt 14 false (.lt 15 false (.hv 16 .nil .nil))))))))))))))))))]) _ _ _ (by kernel_rfl) ?_
  refine kmp ?_ h
  generalize Ok Try.prog = C
  unfold en7
  as_aux_lemma => kernel_rfl

noncomputable def J7_16 (x0 x1 x5 x7 : LV) (g : LHeap)  (K : LV → LHeap → Prop) : Prop :=
  loopP (fun s g N => L7_17 x0 x1 x5 s g N  K) x7 g
abbrev kj7_16  (K : LV → LHeap → Prop) : LSt → Prop := fun st => J7_16 (st.tm 0) (st.tm 1) (st.tm 5) (st.tm 7) st.g  K
theorem J7_16_ok  (K : LV → LHeap → Prop) (tm : Nat → LV) (g : LHeap) (h : J7_16 (tm 0) (tm 1) (tm 5) (tm 7) g  K) : codeL Try.prog (Ok Try.prog) (nd7 [1, 1, 1, 0, 1]) ⟨tm, g⟩ (thenL (kj7_3  K) (en7 K)) := by
  refine block_i (b := nd7 [1, 1, 1, 0, 1, 0]) (i := 0) (by kernel_rfl) ?_
  exact loop_glue (b := nd7 [1, 1, 1, 0, 1, 0, 0]) (by kernel_rfl) (fun tm : Nat → LV => (tm 0, tm 1, tm 5)) (fun tm : Nat → LV => tm 7) (fun a s g N => L7_17 a.1 a.2.1 a.2.2 s g N  K) (fun tm g R h => L7_17_ok R  K tm g h) tm g h

noncomputable def J7_2 (x0 x1 x5 : LV) (g : LHeap)  (K : LV → LHeap → Prop) : Prop :=
  J7_16 x0 x1 x5 (.int .i64 (0)) g  K
abbrev kj7_2  (K : LV → LHeap → Prop) : LSt → Prop := fun st => J7_2 (st.tm 0) (st.tm 1) (st.tm 5) st.g  K
theorem J7_2_ok  (K : LV → LHeap → Prop) (tm : Nat → LV) (g : LHeap) (h : J7_2 (tm 0) (tm 1) (tm 5) g  K) : codeL Try.prog (Ok Try.prog) (nd7 [1, 1, 1]) ⟨tm, g⟩ (en7 K) := by
  refine seq_i (a := nd7 [1, 1, 1, 0]) (b := nd7 [1, 1, 1, 1]) (k' := kj7_3  K) (by kernel_rfl) (fun st h => J7_3_ok  K st.tm st.g h) ?_
  refine seq_i (a := nd7 [1, 1, 1, 0, 0]) (b := nd7 [1, 1, 1, 0, 1]) (k' := kj7_16  K) (by kernel_rfl) (fun st h => J7_16_ok  K st.tm st.g h) ?_
  try unfold J7_2 at h
  unfold kj7_16
  generalize @J7_16 = Q7_16 at h ⊢
  unfold kj7_3
  generalize @J7_3 = Q7_3 at h ⊢
  refine code2_sound ok_mono _ _ _ ?_
  refine kmp ?_ h
  generalize Ok Try.prog = C
  unfold en7
  as_aux_lemma => kernel_rfl

noncomputable def J7_1 (x0 x1 x5 x6 : LV) (g : LHeap)  (K : LV → LHeap → Prop) : Prop :=
  vK (binL Try.prog .neq 28 true x6 (.int .i64 (0))) fun t21 =>
  gd t21 false g (fun K => K x5 g) fun t23 g =>
  gd t21 false g (fun K => vK (binL Try.prog .eql 36 true t23 .nilp) fun v => K v g) fun t24 g =>
  vK (pickL t21 (.bool true) t24) fun t25 =>
  gd t25 false g (fun K => Ok Try.prog 19 [] g K) fun t27 g =>
  gd t25 false g (fun K => vK (unL .not t27) fun v => K v g) fun t28 g =>
  vK (pickL t25 (.bool true) t28) fun t29 =>
  ifB t29 (
  K (.bool false) g) (
  J7_2 x0 x1 x5 g  K)
abbrev kj7_1  (K : LV → LHeap → Prop) : LSt → Prop := fun st => J7_1 (st.tm 0) (st.tm 1) (st.tm 5) (st.tm 6) st.g  K
theorem J7_1_ok  (K : LV → LHeap → Prop) (tm : Nat → LV) (g : LHeap) (h : J7_1 (tm 0) (tm 1) (tm 5) (tm 6) g  K) : codeL Try.prog (Ok Try.prog) (nd7 [1, 1]) ⟨tm, g⟩ (en7 K) := by
  refine seq_i (a := nd7 [1, 1, 0]) (b := nd7 [1, 1, 1]) (k' := kj7_2  K) (by kernel_rfl) (fun st h => J7_2_ok  K st.tm st.g h) ?_
  try unfold J7_1 at h
  unfold kj7_2
  generalize @J7_2 = Q7_2 at h ⊢
  refine code2_sound ok_mono _ _ _ ?_
  refine kmp ?_ h
  generalize Ok Try.prog = C
  unfold en7
  as_aux_lemma => kernel_rfl

noncomputable def J7_0 (x0 x1 : LV) (g : LHeap)  (K : LV → LHeap → Prop) : Prop :=
  Ok Try.prog 18 [(.int .i64 (4)), (.int .i64 (8))] g fun t17 g =>
  vK (extractL t17 0) fun t18 =>
  vK (extractL t17 1) fun t19 =>
  J7_1 x0 x1 t18 t19 g  K
abbrev kj7_0  (K : LV → LHeap → Prop) : LSt → Prop := fun st => J7_0 (st.tm 0) (st.tm 1) st.g  K
theorem J7_0_ok  (K : LV → LHeap → Prop) (tm : Nat → LV) (g : LHeap) (h : J7_0 (tm 0) (tm 1) g  K) : codeL Try.prog (Ok Try.prog) (nd7 [1]) ⟨tm, g⟩ (en7 K) := by
  refine seq_i (a := nd7 [1, 0]) (b := nd7 [1, 1]) (k' := kj7_1  K) (by kernel_rfl) (fun st h => J7_1_ok  K st.tm st.g h) ?_
  try unfold J7_0 at h
  unfold kj7_1
  generalize @J7_1 = Q7_1 at h ⊢
  refine code2_sound ok_mono _ _ _ ?_
  refine kmp ?_ h
  generalize Ok Try.prog = C
  unfold en7
  as_aux_lemma => kernel_rfl

noncomputable def F7 (x0 x1 : LV) (g : LHeap) (K : LV → LHeap → Prop) : Prop :=
  J7_0 x0 x1 g  K
theorem ok7 {x0 x1 : LV} {g : LHeap} {K : LV → LHeap → Prop} (h : g.Wf → (∀ v ∈ ([x0, x1] : List LV), ∀ b ∈ v.objs, b < g.next) → F7 x0 x1 g K) : Ok Try.prog 7 [x0, x1] g K := by
  refine ok_fw Try.mixed Try.func7 (by kernel_rfl) (by kernel_rfl) (c := nd7 []) (by kernel_rfl) fun wf lt => ?_
  rw [← en7_eq]
  replace h := h wf lt
  generalize hs : startL _ = tm
  replace h : F7 (tm 0) (tm 1) g K := by rw [← hs]; exact h
  refine seq_i (a := nd7 [0]) (b := nd7 [1]) (k' := kj7_0  K) (by kernel_rfl) (fun st h => J7_0_ok  K st.tm st.g h) ?_
  try unfold F7 at h
  unfold kj7_0
  generalize @J7_0 = Q7_0 at h ⊢
  refine code2_sound ok_mono _ _ _ ?_
  refine kmp ?_ h
  generalize Ok Try.prog = C
  unfold en7
  as_aux_lemma => kernel_rfl

/-! parapet/parapetlaw07.TlbPlays (63 slots) -/
noncomputable def en8 (K : LV → LHeap → Prop) : LEx → LSt → Prop := fun e st => match e with
  | .exit _ => False
  | _ => K (st.tm 6) st.g
theorem en8_eq (K : LV → LHeap → Prop) : en8 K = endL Try.prog Try.f8 K := by
  funext e st
  cases e <;> kernel_rfl
noncomputable def nd8 (p : List Nat) : Code := subC p (bodyC Try.prog 8)
noncomputable def J8_4 (x7 x9 : LV) (g : LHeap)  (K : LV → LHeap → Prop) : Prop :=
  vK (binL Try.prog .eql 65 true x9 .nilp) fun t57 =>
  gd t57 false g (fun K => K x7 g) fun t59 g =>
  gd t57 false g (fun K => K x9 g) fun t60 g =>
  gd t57 false g (fun K => Ok Try.prog 34 [t59, t60] g K) fun t61 g =>
  vK (pickL t57 (.bool true) t61) fun t62 =>
  K t62 g
abbrev kj8_4  (K : LV → LHeap → Prop) : LSt → Prop := fun st => J8_4 (st.tm 7) (st.tm 9) st.g  K
theorem J8_4_ok  (K : LV → LHeap → Prop) (tm : Nat → LV) (g : LHeap) (h : J8_4 (tm 7) (tm 9) g  K) : codeL Try.prog (Ok Try.prog) (nd8 [1, 1, 1, 1, 1]) ⟨tm, g⟩ (en8 K) := by
  try unfold J8_4 at h
  refine code2_sound ok_mono _ _ _ ?_
  refine kmp ?_ h
  generalize Ok Try.prog = C
  unfold en8
  as_aux_lemma => kernel_rfl

noncomputable def L8_6 (x2 x7 x9 : LV) (x11 : LV) (g : LHeap) (N6 : LV → LHeap → Prop) (K : LV → LHeap → Prop) : Prop :=
  oK (builtinL Try.prog .len [35] [x2] g) fun t40 g =>
  vK (binL Try.prog .lss 3 false x11 t40) fun t41 =>
  gd t41 true g (fun K => K x9 g) fun t43 g =>
  gd t41 true g (fun K => vK (binL Try.prog .neq 65 true t43 .nilp) fun v => K v g) fun t44 g =>
  vK (pickL t41 t44 (.bool false)) fun t45 =>
  ifB t45 (
  vK (ixAddrL none 7 x2 x11) fun t52 =>
  vK (loadV (some 7) t52 g) fun t53 =>
  Ok Try.prog 33 [x7, x9, t53] g fun t54 g =>
  vK (unL .not t54) fun t55 =>
  ifB t55 (
  K (.bool false) g) (
  vK (binL Try.prog .add 3 true x11 (.int .i64 (1))) fun t47 =>
  N6 t47 g)) (
  J8_4 x7 x9 g  K)
theorem L8_6_ok (R6 : LV × LV × LV → LV → LHeap → Prop) (K : LV → LHeap → Prop) (tm : Nat → LV) (g : LHeap) (h : L8_6 (tm 2) (tm 7) (tm 9) (tm 11) g (fun s g => R6 ((tm 2), (tm 7), (tm 9)) s g) K) : codeL Try.prog (Ok Try.prog) (nd8 [1, 1, 1, 1, 0, 1, 0, 0]) ⟨tm, g⟩ (roundK (fun tm : Nat → LV => (tm 2, tm 7, tm 9)) (fun tm : Nat → LV => tm 11) R6 (exitL 0 (thenL (kj8_4  K) (en8 K)))) := by
  try unfold L8_6 at h
  unfold kj8_4
  generalize @J8_4 = Q8_4 at h ⊢
  refine code2_sound ok_mono _ _ _ ?_
  refine kmp ?_ h
  generalize Ok Try.prog = C
  unfold en8
  as_aux_lemma => kernel_rfl

noncomputable def J8_5 (x2 x7 x9 x11 : LV) (g : LHeap)  (K : LV → LHeap → Prop) : Prop :=
  loopP (fun s g N => L8_6 x2 x7 x9 s g N  K) x11 g
abbrev kj8_5  (K : LV → LHeap → Prop) : LSt → Prop := fun st => J8_5 (st.tm 2) (st.tm 7) (st.tm 9) (st.tm 11) st.g  K
theorem J8_5_ok  (K : LV → LHeap → Prop) (tm : Nat → LV) (g : LHeap) (h : J8_5 (tm 2) (tm 7) (tm 9) (tm 11) g  K) : codeL Try.prog (Ok Try.prog) (nd8 [1, 1, 1, 1, 0, 1]) ⟨tm, g⟩ (thenL (kj8_4  K) (en8 K)) := by
  refine block_i (b := nd8 [1, 1, 1, 1, 0, 1, 0]) (i := 0) (by kernel_rfl) ?_
  exact loop_glue (b := nd8 [1, 1, 1, 1, 0, 1, 0, 0]) (by kernel_rfl) (fun tm : Nat → LV => (tm 2, tm 7, tm 9)) (fun tm : Nat → LV => tm 11) (fun a s g N => L8_6 a.1 a.2.1 a.2.2 s g N  K) (fun tm g R h => L8_6_ok R  K tm g h) tm g h

noncomputable def J8_3 (x2 x7 x9 : LV) (g : LHeap)  (K : LV → LHeap → Prop) : Prop :=
  J8_5 x2 x7 x9 (.int .i64 (0)) g  K
abbrev kj8_3  (K : LV → LHeap → Prop) : LSt → Prop := fun st => J8_3 (st.tm 2) (st.tm 7) (st.tm 9) st.g  K
theorem J8_3_ok  (K : LV → LHeap → Prop) (tm : Nat → LV) (g : LHeap) (h : J8_3 (tm 2) (tm 7) (tm 9) g  K) : codeL Try.prog (Ok Try.prog) (nd8 [1, 1, 1, 1]) ⟨tm, g⟩ (en8 K) := by
  refine seq_i (a := nd8 [1, 1, 1, 1, 0]) (b := nd8 [1, 1, 1, 1, 1]) (k' := kj8_4  K) (by kernel_rfl) (fun st h => J8_4_ok  K st.tm st.g h) ?_
  refine seq_i (a := nd8 [1, 1, 1, 1, 0, 0]) (b := nd8 [1, 1, 1, 1, 0, 1]) (k' := kj8_5  K) (by kernel_rfl) (fun st h => J8_5_ok  K st.tm st.g h) ?_
  try unfold J8_3 at h
  unfold kj8_5
  generalize @J8_5 = Q8_5 at h ⊢
  unfold kj8_4
  generalize @J8_4 = Q8_4 at h ⊢
  refine code2_sound ok_mono _ _ _ ?_
  refine kmp ?_ h
  generalize Ok Try.prog = C
  unfold en8
  as_aux_lemma => kernel_rfl

noncomputable def J8_2 (x2 x7 x8 x9 x10 : LV) (g : LHeap)  (K : LV → LHeap → Prop) : Prop :=
  Ok Try.prog 19 [] g fun t24 g =>
  vK (unL .not t24) fun t25 =>
  gd t25 false g (fun K => K x8 g) fun t27 g =>
  gd t25 false g (fun K => K x10 g) fun t28 g =>
  gd t25 false g (fun K => vK (binL Try.prog .neq 28 false t27 t28) fun v => K v g) fun t29 g =>
  vK (pickL t25 (.bool true) t29) fun t30 =>
  gd t30 false g (fun K => K x7 g) fun t32 g =>
  gd t30 false g (fun K => vK (binL Try.prog .eql 36 true t32 .nilp) fun v => K v g) fun t33 g =>
  gd t30 false g (fun K => K x9 g) fun t34 g =>
  gd t30 false g (fun K => vK (binL Try.prog .eql 65 true t34 .nilp) fun v => K v g) fun t35 g =>
  gd t30 false g (fun K => vK (binL Try.prog .neq 4 false t33 t35) fun v => K v g) fun t36 g =>
  vK (pickL t30 (.bool true) t36) fun t37 =>
  ifB t37 (
  K (.bool false) g) (
  J8_3 x2 x7 x9 g  K)
abbrev kj8_2  (K : LV → LHeap → Prop) : LSt → Prop := fun st => J8_2 (st.tm 2) (st.tm 7) (st.tm 8) (st.tm 9) (st.tm 10) st.g  K
theorem J8_2_ok  (K : LV → LHeap → Prop) (tm : Nat → LV) (g : LHeap) (h : J8_2 (tm 2) (tm 7) (tm 8) (tm 9) (tm 10) g  K) : codeL Try.prog (Ok Try.prog) (nd8 [1, 1, 1]) ⟨tm, g⟩ (en8 K) := by
  refine seq_i (a := nd8 [1, 1, 1, 0]) (b := nd8 [1, 1, 1, 1]) (k' := kj8_3  K) (by kernel_rfl) (fun st h => J8_3_ok  K st.tm st.g h) ?_
  try unfold J8_2 at h
  unfold kj8_3
  generalize @J8_3 = Q8_3 at h ⊢
  refine code2_sound ok_mono _ _ _ ?_
  refine kmp ?_ h
  generalize Ok Try.prog = C
  unfold en8
  as_aux_lemma => kernel_rfl

noncomputable def J8_1 (x0 x1 x2 x7 x8 : LV) (g : LHeap)  (K : LV → LHeap → Prop) : Prop :=
  Ok Try.prog 32 [x0, x1] g fun t21 g =>
  vK (extractL t21 0) fun t22 =>
  vK (extractL t21 1) fun t23 =>
  J8_2 x2 x7 x8 t22 t23 g  K
abbrev kj8_1  (K : LV → LHeap → Prop) : LSt → Prop := fun st => J8_1 (st.tm 0) (st.tm 1) (st.tm 2) (st.tm 7) (st.tm 8) st.g  K
theorem J8_1_ok  (K : LV → LHeap → Prop) (tm : Nat → LV) (g : LHeap) (h : J8_1 (tm 0) (tm 1) (tm 2) (tm 7) (tm 8) g  K) : codeL Try.prog (Ok Try.prog) (nd8 [1, 1]) ⟨tm, g⟩ (en8 K) := by
  refine seq_i (a := nd8 [1, 1, 0]) (b := nd8 [1, 1, 1]) (k' := kj8_2  K) (by kernel_rfl) (fun st h => J8_2_ok  K st.tm st.g h) ?_
  try unfold J8_1 at h
  unfold kj8_2
  generalize @J8_2 = Q8_2 at h ⊢
  refine code2_sound ok_mono _ _ _ ?_
  refine kmp ?_ h
  generalize Ok Try.prog = C
  unfold en8
  as_aux_lemma => kernel_rfl

noncomputable def J8_0 (x0 x1 x2 : LV) (g : LHeap)  (K : LV → LHeap → Prop) : Prop :=
  Ok Try.prog 18 [x0, x1] g fun t15 g =>
  vK (extractL t15 0) fun t16 =>
  vK (extractL t15 1) fun t17 =>
  J8_1 x0 x1 x2 t16 t17 g  K
abbrev kj8_0  (K : LV → LHeap → Prop) : LSt → Prop := fun st => J8_0 (st.tm 0) (st.tm 1) (st.tm 2) st.g  K
theorem J8_0_ok  (K : LV → LHeap → Prop) (tm : Nat → LV) (g : LHeap) (h : J8_0 (tm 0) (tm 1) (tm 2) g  K) : codeL Try.prog (Ok Try.prog) (nd8 [1]) ⟨tm, g⟩ (en8 K) := by
  refine seq_i (a := nd8 [1, 0]) (b := nd8 [1, 1]) (k' := kj8_1  K) (by kernel_rfl) (fun st h => J8_1_ok  K st.tm st.g h) ?_
  try unfold J8_0 at h
  unfold kj8_1
  generalize @J8_1 = Q8_1 at h ⊢
  refine code2_sound ok_mono _ _ _ ?_
  refine kmp ?_ h
  generalize Ok Try.prog = C
  unfold en8
  as_aux_lemma => kernel_rfl

noncomputable def F8 (x0 x1 x2 : LV) (g : LHeap) (K : LV → LHeap → Prop) : Prop :=
  J8_0 x0 x1 x2 g  K
theorem ok8 {x0 x1 x2 : LV} {g : LHeap} {K : LV → LHeap → Prop} (h : g.Wf → (∀ v ∈ ([x0, x1, x2] : List LV), ∀ b ∈ v.objs, b < g.next) → F8 x0 x1 x2 g K) : Ok Try.prog 8 [x0, x1, x2] g K := by
  refine ok_fw Try.mixed Try.func8 (by kernel_rfl) (by kernel_rfl) (c := nd8 []) (by kernel_rfl) fun wf lt => ?_
  rw [← en8_eq]
  replace h := h wf lt
  generalize hs : startL _ = tm
  replace h : F8 (tm 0) (tm 1) (tm 2) g K := by rw [← hs]; exact h
  refine seq_i (a := nd8 [0]) (b := nd8 [1]) (k' := kj8_0  K) (by kernel_rfl) (fun st h => J8_0_ok  K st.tm st.g h) ?_
  try unfold F8 at h
  unfold kj8_0
  generalize @J8_0 = Q8_0 at h ⊢
  refine code2_sound ok_mono _ _ _ ?_
  refine kmp ?_ h
  generalize Ok Try.prog = C
  unfold en8
  as_aux_lemma => kernel_rfl

/-! parapet/parapetlaw07.step (138 slots) -/
noncomputable def en33 (K : LV → LHeap → Prop) : LEx → LSt → Prop := fun e st => match e with
  | .exit _ => False
  | _ => K (st.tm 6) st.g
theorem en33_eq (K : LV → LHeap → Prop) : en33 K = endL Try.prog Try.f33 K := by
  funext e st
  cases e <;> kernel_rfl
noncomputable def nd33 (p : List Nat) : Code := subC p (bodyC Try.prog 33)
noncomputable def F33 (x0 x1 x2 : LV) (g : LHeap) (K : LV → LHeap → Prop) : Prop :=
  oK (newL x2 g) fun t5 g =>
  vK (fieldAddrL 0 t5) fun t15 =>
  vK (loadV none t15 g) fun t16 =>
  vK (binL Try.prog .eql 3 true t16 (.int .i64 (1))) fun t18 =>
  ifB t18 (
  vK (fieldAddrL 1 t5) fun t21 =>
  vK (loadV none t21 g) fun t22 =>
  vK (fieldAddrL 2 t5) fun t23 =>
  vK (loadV (some 2) t23 g) fun t24 =>
  Ok Try.prog 31 [x0, t22, t24] g fun t25 g =>
  vK (extractL t25 0) fun t26 =>
  vK (extractL t25 1) fun t27 =>
  vK (fieldAddrL 1 t5) fun t30 =>
  vK (loadV none t30 g) fun t31 =>
  vK (fieldAddrL 2 t5) fun t32 =>
  vK (loadV (some 2) t32 g) fun t33 =>
  Ok Try.prog 53 [x1, t31, t33] g fun t34 g =>
  vK (extractL t34 0) fun t35 =>
  vK (extractL t34 1) fun t36 =>
  vK (binL Try.prog .eql 42 false t26 t35) fun t39 =>
  gd t39 true g (fun K => K t27 g) fun t41 g =>
  gd t39 true g (fun K => K t36 g) fun t42 g =>
  gd t39 true g (fun K => vK (binL Try.prog .eql 4 false t41 t42) fun v => K v g) fun t43 g =>
  vK (pickL t39 t43 (.bool false)) fun t44 =>
  K t44 g) (
  vK (binL Try.prog .eql 3 true t16 (.int .i64 (2))) fun t46 =>
  ifB t46 (
  vK (fieldAddrL 1 t5) fun t48 =>
  vK (loadV none t48 g) fun t49 =>
  vK (fieldAddrL 2 t5) fun t50 =>
  vK (loadV (some 2) t50 g) fun t51 =>
  vK (fieldAddrL 4 t5) fun t52 =>
  vK (loadV none t52 g) fun t53 =>
  vK (fieldAddrL 1 t5) fun t56 =>
  vK (loadV none t56 g) fun t57 =>
  vK (fieldAddrL 2 t5) fun t58 =>
  vK (loadV (some 2) t58 g) fun t59 =>
  vK (fieldAddrL 4 t5) fun t60 =>
  vK (loadV none t60 g) fun t61 =>
  ((Ok Try.prog 20 [x0, t49, t51, t53] g fun t54 g =>
  ((loadV none t60 g) = some t61 ∧ ((loadV (some 2) t58 g) = some t59 ∧ ((loadV none t56 g) = some t57 ∧ 
  ((Ok Try.prog 54 [x1, t57, t59, t61] g fun t62 g =>
  
  vK (binL Try.prog .eql 28 false t54 t62) fun t63 =>
  K t63 g) ∧ True))))) ∧ True)) (
  vK (binL Try.prog .eql 3 true t16 (.int .i64 (3))) fun t65 =>
  ifB t65 (
  vK (fieldAddrL 1 t5) fun t67 =>
  vK (loadV none t67 g) fun t68 =>
  vK (fieldAddrL 2 t5) fun t69 =>
  vK (fieldAddrL 0 t69) fun t70 =>
  vK (loadV none t70 g) fun t71 =>
  vK (fieldAddrL 1 t5) fun t74 =>
  vK (loadV none t74 g) fun t75 =>
  vK (fieldAddrL 2 t5) fun t76 =>
  vK (fieldAddrL 0 t76) fun t77 =>
  vK (loadV none t77 g) fun t78 =>
  ((Ok Try.prog 30 [x0, t68, t71] g fun t72 g =>
  ((loadV none t77 g) = some t78 ∧ ((loadV none t74 g) = some t75 ∧ 
  ((Ok Try.prog 55 [x1, t75, t78] g fun t79 g =>
  
  vK (binL Try.prog .eql 3 false t72 t79) fun t80 =>
  K t80 g) ∧ True)))) ∧ True)) (
  vK (binL Try.prog .eql 3 true t16 (.int .i64 (4))) fun t82 =>
  ifB t82 (
  vK (fieldAddrL 2 t5) fun t85 =>
  vK (fieldAddrL 0 t85) fun t86 =>
  vK (loadV none t86 g) fun t87 =>
  vK (fieldAddrL 6 t5) fun t89 =>
  vK (loadV none t89 g) fun t90 =>
  ((oK (buildSliceL Try.prog 24 0 [] g) fun t88 g =>
  ((loadV none t89 g) = some t90 ∧ ((loadV none t86 g) = some t87 ∧ 
  ((oK (builtinL Try.prog .append [24, 24] [t88, t90] g) fun t91 g =>
  ((loadV none t86 g) = some t87 ∧ 
  ((Ok Try.prog 21 [x0, t87, t91] g fun t92 g =>
  
  vK (extractL t92 0) fun t93 =>
  vK (extractL t92 1) fun t94 =>
  vK (fieldAddrL 2 t5) fun t97 =>
  vK (fieldAddrL 0 t97) fun t98 =>
  vK (loadV none t98 g) fun t99 =>
  vK (fieldAddrL 6 t5) fun t100 =>
  vK (loadV none t100 g) fun t101 =>
  Ok Try.prog 56 [x1, t99, t101] g fun t102 g =>
  vK (extractL t102 0) fun t103 =>
  vK (extractL t102 1) fun t104 =>
  vK (binL Try.prog .eql 3 false t93 t103) fun t107 =>
  gd t107 true g (fun K => K t94 g) fun t109 g =>
  gd t107 true g (fun K => K t104 g) fun t110 g =>
  gd t107 true g (fun K => vK (binL Try.prog .eql 28 false t109 t110) fun v => K v g) fun t111 g =>
  vK (pickL t107 t111 (.bool false)) fun t112 =>
  K t112 g) ∧ True))) ∧ True)))) ∧ True)) (
  vK (binL Try.prog .eql 3 true t16 (.int .i64 (5))) fun t114 =>
  ifB t114 (
  vK (fieldAddrL 1 t5) fun t116 =>
  vK (loadV none t116 g) fun t117 =>
  vK (fieldAddrL 1 t5) fun t120 =>
  vK (loadV none t120 g) fun t121 =>
  ((Ok Try.prog 24 [x0, t117] g fun t118 g =>
  ((loadV none t120 g) = some t121 ∧ 
  ((Ok Try.prog 57 [x1, t121] g fun t122 g =>
  
  vK (binL Try.prog .eql 3 false t118 t122) fun t123 =>
  K t123 g) ∧ True))) ∧ True)) (
  vK (binL Try.prog .eql 3 true t16 (.int .i64 (6))) fun t125 =>
  ifB t125 (
  vK (fieldAddrL 5 t5) fun t127 =>
  vK (loadV none t127 g) fun t128 =>
  vK (fieldAddrL 5 t5) fun t131 =>
  vK (loadV none t131 g) fun t132 =>
  ((Ok Try.prog 23 [x0, t128] g fun t129 g =>
  ((loadV none t131 g) = some t132 ∧ 
  ((Ok Try.prog 58 [x1, t132] g fun t133 g =>
  
  vK (binL Try.prog .eql 4 false t129 t133) fun t134 =>
  K t134 g) ∧ True))) ∧ True)) (
  Ok Try.prog 34 [x0, x1] g fun t137 g =>
  K t137 g))))))
theorem ok33 {x0 x1 x2 : LV} {g : LHeap} {K : LV → LHeap → Prop} (h : g.Wf → (∀ v ∈ ([x0, x1, x2] : List LV), ∀ b ∈ v.objs, b < g.next) → F33 x0 x1 x2 g K) : Ok Try.prog 33 [x0, x1, x2] g K := by
  refine ok_fw Try.mixed Try.func33 (by kernel_rfl) (by kernel_rfl) (c := nd33 []) (by kernel_rfl) fun wf lt => ?_
  rw [← en33_eq]
  replace h := h wf lt
  generalize hs : startL _ = tm
  replace h : F33 (tm 0) (tm 1) (tm 2) g K := by rw [← hs]; exact h
  try unfold F33 at h
  refine code3_sound ok_mono (pl := [(7, (.lt 0 false (.lt 1 false (.lt 2 false (.lt 3 false (.lt 4 false (.lt 5 false (.lt 6 false (.lt 8 false (.lt 9 false (.lt 10 true (.lt 11 false (.lt 12 true (.lt 13 false (.lt 14 true (.hv 7 (.hv 15 (.lt 16 false (.lt 17 false .nil)) .nil) .nil)))))))))))))))), (9, (.lt 0 false (.lt 1 false (.lt 2 false (.lt 3 false (.lt 4 false (.lt 5 false (.lt 7 false (.lt 8 false (.lt 9 true (.lt 10 false (.lt 11 false (.lt 12 true (.hv 6 (.hv 13 (.lt 14 false (.lt 15 false .nil)) .nil) .nil)))))))))))))), (11, (.lt 0 false (.lt 1 false (.lt 2 false (.lt 3 true (.lt 5 false (.lt 6 true (.hv 4 (.hv 7 (.hv 8 (.lt 9 false (.lt 10 false (.lt 11 false (.lt 12 false (.lt 13 false .nil))))) .nil) .nil) .nil))))))))]) _ _ _ (by kernel_rfl) ?_
  refine kmp ?_ h
  generalize Ok Try.prog = C
  unfold en33
  as_aux_lemma => kernel_rfl

/-! parapet/parapetlaw07.looks (111 slots) -/
noncomputable def en34 (K : LV → LHeap → Prop) : LEx → LSt → Prop := fun e st => match e with
  | .exit _ => False
  | _ => K (st.tm 4) st.g
theorem en34_eq (K : LV → LHeap → Prop) : en34 K = endL Try.prog Try.f34 K := by
  funext e st
  cases e <;> kernel_rfl
noncomputable def nd34 (p : List Nat) : Code := subC p (bodyC Try.prog 34)
noncomputable def J34_2 (g : LHeap)  (K : LV → LHeap → Prop) : Prop :=
  K (.bool true) g
abbrev kj34_2  (K : LV → LHeap → Prop) : LSt → Prop := fun st => J34_2  st.g  K
theorem J34_2_ok  (K : LV → LHeap → Prop) (tm : Nat → LV) (g : LHeap) (h : J34_2  g  K) : codeL Try.prog (Ok Try.prog) (nd34 [1, 1, 1]) ⟨tm, g⟩ (en34 K) := by
  try unfold J34_2 at h
  refine code2_sound ok_mono _ _ _ ?_
  refine kmp ?_ h
  generalize Ok Try.prog = C
  unfold en34
  as_aux_lemma => kernel_rfl

noncomputable def J34_6 (x0 x1 x5 : LV) (g : LHeap) (N4 : LV → LHeap → Prop) (K : LV → LHeap → Prop) : Prop :=
  vK (binL Try.prog .add 3 true x5 (.int .i64 (1))) fun t35 =>
  N4 t35 g
abbrev kj34_6 (R4 : LV × LV → LV → LHeap → Prop) (K : LV → LHeap → Prop) : LSt → Prop := fun st => J34_6 (st.tm 0) (st.tm 1) (st.tm 5) st.g (fun s g => R4 ((st.tm 0), (st.tm 1)) s g) K
theorem J34_6_ok (R4 : LV × LV → LV → LHeap → Prop) (K : LV → LHeap → Prop) (tm : Nat → LV) (g : LHeap) (h : J34_6 (tm 0) (tm 1) (tm 5) g (fun s g => R4 ((tm 0), (tm 1)) s g) K) : codeL Try.prog (Ok Try.prog) (nd34 [1, 1, 0, 1, 0, 0, 1, 1]) ⟨tm, g⟩ (roundK (fun tm : Nat → LV => (tm 0, tm 1)) (fun tm : Nat → LV => tm 5) R4 (exitL 0 (thenL (kj34_2  K) (en34 K)))) := by
  try unfold J34_6 at h
  unfold kj34_2
  generalize @J34_2 = Q34_2 at h ⊢
  refine code2_sound ok_mono _ _ _ ?_
  refine kmp ?_ h
  generalize Ok Try.prog = C
  unfold en34
  as_aux_lemma => kernel_rfl

noncomputable def L34_14 (x0 x1 x5 x8 x9 : LV) (x11 : LV) (g : LHeap) (N14 : LV → LHeap → Prop) (N4 : LV → LHeap → Prop) (K : LV → LHeap → Prop) : Prop :=
  vK (binL Try.prog .lss 3 false x11 x9) fun t92 =>
  ifB t92 (
  vK (ixAddrL none 2 x8 x11) fun t97 =>
  vK (loadV (some 2) t97 g) fun t98 =>
  vK (nilCheckL x1) fun t100 =>
  vK (fieldAddrL 1 t100) fun t101 =>
  vK (loadV none t101 g) fun t102 =>
  vK (ixAddrL none 1 t102 x5) fun t104 =>
  vK (loadV none t104 g) fun t105 =>
  vK (ixAddrL none 3 t105 x11) fun t107 =>
  vK (fieldAddrL 0 t107) fun t108 =>
  vK (loadV (some 2) t108 g) fun t109 =>
  vK (binL Try.prog .neq 41 false t98 t109) fun t110 =>
  ifB t110 (
  K (.bool false) g) (
  vK (binL Try.prog .add 3 true x11 (.int .i64 (1))) fun t94 =>
  N14 t94 g)) (
  J34_6 x0 x1 x5 g N4 K)
theorem L34_14_ok (R14 : LV × LV × LV × LV × LV → LV → LHeap → Prop) (R4 : LV × LV → LV → LHeap → Prop) (K : LV → LHeap → Prop) (tm : Nat → LV) (g : LHeap) (h : L34_14 (tm 0) (tm 1) (tm 5) (tm 8) (tm 9) (tm 11) g (fun s g => R14 ((tm 0), (tm 1), (tm 5), (tm 8), (tm 9)) s g) (fun s g => R4 ((tm 0), (tm 1)) s g) K) : codeL Try.prog (Ok Try.prog) (nd34 [1, 1, 0, 1, 0, 0, 1, 0, 0, 1, 1, 1, 1, 1, 1, 1, 0, 0]) ⟨tm, g⟩ (roundK (fun tm : Nat → LV => (tm 0, tm 1, tm 5, tm 8, tm 9)) (fun tm : Nat → LV => tm 11) R14 (exitL 4 (exitL 1 (thenL (kj34_6 R4 K) (roundK (fun tm : Nat → LV => (tm 0, tm 1)) (fun tm : Nat → LV => tm 5) R4 (exitL 0 (thenL (kj34_2  K) (en34 K)))))))) := by
  try unfold L34_14 at h
  unfold kj34_6
  generalize @J34_6 = Q34_6 at h ⊢
  unfold kj34_2
  generalize @J34_2 = Q34_2 at h ⊢
  refine code3_sound ok_mono (pl := [(21, (.lt 0 false (.lt 1 false (.lt 2 false (.lt 3 false (.lt 4 false (.lt 5 false (.lt 6 false (.lt 7 false (.lt 8 false (.lt 9 false (.lt 10 false (.lt 11 false (.lt 12 false (.lt 13 false (.lt 14 false (.lt 15 false .nil)))))))))))))))))]) _ _ _ (by kernel_rfl) ?_
  refine kmp ?_ h
  generalize Ok Try.prog = C
  unfold en34
  as_aux_lemma => kernel_rfl

noncomputable def J34_13 (x0 x1 x5 x8 x9 x11 : LV) (g : LHeap) (N4 : LV → LHeap → Prop) (K : LV → LHeap → Prop) : Prop :=
  loopP (fun s g N => L34_14 x0 x1 x5 x8 x9 s g N N4 K) x11 g
abbrev kj34_13 (R4 : LV × LV → LV → LHeap → Prop) (K : LV → LHeap → Prop) : LSt → Prop := fun st => J34_13 (st.tm 0) (st.tm 1) (st.tm 5) (st.tm 8) (st.tm 9) (st.tm 11) st.g (fun s g => R4 ((st.tm 0), (st.tm 1)) s g) K
theorem J34_13_ok (R4 : LV × LV → LV → LHeap → Prop) (K : LV → LHeap → Prop) (tm : Nat → LV) (g : LHeap) (h : J34_13 (tm 0) (tm 1) (tm 5) (tm 8) (tm 9) (tm 11) g (fun s g => R4 ((tm 0), (tm 1)) s g) K) : codeL Try.prog (Ok Try.prog) (nd34 [1, 1, 0, 1, 0, 0, 1, 0, 0, 1, 1, 1, 1, 1, 1, 1]) ⟨tm, g⟩ (exitL 1 (thenL (kj34_6 R4 K) (roundK (fun tm : Nat → LV => (tm 0, tm 1)) (fun tm : Nat → LV => tm 5) R4 (exitL 0 (thenL (kj34_2  K) (en34 K)))))) := by
  refine block_i (b := nd34 [1, 1, 0, 1, 0, 0, 1, 0, 0, 1, 1, 1, 1, 1, 1, 1, 0]) (i := 4) (by kernel_rfl) ?_
  exact loop_glue (b := nd34 [1, 1, 0, 1, 0, 0, 1, 0, 0, 1, 1, 1, 1, 1, 1, 1, 0, 0]) (by kernel_rfl) (fun tm : Nat → LV => (tm 0, tm 1, tm 5, tm 8, tm 9)) (fun tm : Nat → LV => tm 11) (fun a s g N => L34_14 a.1 a.2.1 a.2.2.1 a.2.2.2.1 a.2.2.2.2 s g N (fun s g => R4 ((a.1), (a.2.1)) s g) K) (fun tm g R h => L34_14_ok R R4 K tm g h) tm g h

noncomputable def J34_12 (x0 x1 x5 x8 x9 : LV) (g : LHeap) (N4 : LV → LHeap → Prop) (K : LV → LHeap → Prop) : Prop :=
  J34_13 x0 x1 x5 x8 x9 (.int .i64 (0)) g N4 K
abbrev kj34_12 (R4 : LV × LV → LV → LHeap → Prop) (K : LV → LHeap → Prop) : LSt → Prop := fun st => J34_12 (st.tm 0) (st.tm 1) (st.tm 5) (st.tm 8) (st.tm 9) st.g (fun s g => R4 ((st.tm 0), (st.tm 1)) s g) K
theorem J34_12_ok (R4 : LV × LV → LV → LHeap → Prop) (K : LV → LHeap → Prop) (tm : Nat → LV) (g : LHeap) (h : J34_12 (tm 0) (tm 1) (tm 5) (tm 8) (tm 9) g (fun s g => R4 ((tm 0), (tm 1)) s g) K) : codeL Try.prog (Ok Try.prog) (nd34 [1, 1, 0, 1, 0, 0, 1, 0, 0, 1, 1, 1, 1, 1, 1]) ⟨tm, g⟩ (exitL 1 (thenL (kj34_6 R4 K) (roundK (fun tm : Nat → LV => (tm 0, tm 1)) (fun tm : Nat → LV => tm 5) R4 (exitL 0 (thenL (kj34_2  K) (en34 K)))))) := by
  refine seq_i (a := nd34 [1, 1, 0, 1, 0, 0, 1, 0, 0, 1, 1, 1, 1, 1, 1, 0]) (b := nd34 [1, 1, 0, 1, 0, 0, 1, 0, 0, 1, 1, 1, 1, 1, 1, 1]) (k' := kj34_13 R4 K) (by kernel_rfl) (fun st h => J34_13_ok R4 K st.tm st.g h) ?_
  try unfold J34_12 at h
  unfold kj34_13
  generalize @J34_13 = Q34_13 at h ⊢
  unfold kj34_6
  generalize @J34_6 = Q34_6 at h ⊢
  unfold kj34_2
  generalize @J34_2 = Q34_2 at h ⊢
  refine code2_sound ok_mono _ _ _ ?_
  refine kmp ?_ h
  generalize Ok Try.prog = C
  unfold en34
  as_aux_lemma => kernel_rfl

noncomputable def L34_16 (x0 x1 x5 x6 x7 x8 x9 : LV) (x10 : LV) (g : LHeap) (N16 : LV → LHeap → Prop) (N4 : LV → LHeap → Prop) (K : LV → LHeap → Prop) : Prop :=
  oK (builtinL Try.prog .len [24] [x6] g) fun t77 g =>
  vK (binL Try.prog .lss 3 false x10 t77) fun t78 =>
  ifB t78 (
  vK (ixAddrL none 1 x6 x10) fun t83 =>
  vK (loadV none t83 g) fun t84 =>
  vK (ixAddrL none 1 x7 x10) fun t87 =>
  vK (loadV none t87 g) fun t88 =>
  vK (binL Try.prog .neq 3 false t84 t88) fun t89 =>
  ifB t89 (
  K (.bool false) g) (
  vK (binL Try.prog .add 3 true x10 (.int .i64 (1))) fun t80 =>
  N16 t80 g)) (
  J34_12 x0 x1 x5 x8 x9 g N4 K)
theorem L34_16_ok (R16 : LV × LV × LV × LV × LV × LV × LV → LV → LHeap → Prop) (R4 : LV × LV → LV → LHeap → Prop) (K : LV → LHeap → Prop) (tm : Nat → LV) (g : LHeap) (h : L34_16 (tm 0) (tm 1) (tm 5) (tm 6) (tm 7) (tm 8) (tm 9) (tm 10) g (fun s g => R16 ((tm 0), (tm 1), (tm 5), (tm 6), (tm 7), (tm 8), (tm 9)) s g) (fun s g => R4 ((tm 0), (tm 1)) s g) K) : codeL Try.prog (Ok Try.prog) (nd34 [1, 1, 0, 1, 0, 0, 1, 0, 0, 1, 1, 1, 1, 1, 0, 1, 0, 0]) ⟨tm, g⟩ (roundK (fun tm : Nat → LV => (tm 0, tm 1, tm 5, tm 6, tm 7, tm 8, tm 9)) (fun tm : Nat → LV => tm 10) R16 (exitL 2 (thenL (kj34_12 R4 K) (exitL 1 (thenL (kj34_6 R4 K) (roundK (fun tm : Nat → LV => (tm 0, tm 1)) (fun tm : Nat → LV => tm 5) R4 (exitL 0 (thenL (kj34_2  K) (en34 K))))))))) := by
  try unfold L34_16 at h
  unfold kj34_12
  generalize @J34_12 = Q34_12 at h ⊢
  unfold kj34_6
  generalize @J34_6 = Q34_6 at h ⊢
  unfold kj34_2
  generalize @J34_2 = Q34_2 at h ⊢
  refine code2_sound ok_mono _ _ _ ?_
  refine kmp ?_ h
  generalize Ok Try.prog = C
  unfold en34
  as_aux_lemma => kernel_rfl

noncomputable def J34_15 (x0 x1 x5 x6 x7 x8 x9 x10 : LV) (g : LHeap) (N4 : LV → LHeap → Prop) (K : LV → LHeap → Prop) : Prop :=
  loopP (fun s g N => L34_16 x0 x1 x5 x6 x7 x8 x9 s g N N4 K) x10 g
abbrev kj34_15 (R4 : LV × LV → LV → LHeap → Prop) (K : LV → LHeap → Prop) : LSt → Prop := fun st => J34_15 (st.tm 0) (st.tm 1) (st.tm 5) (st.tm 6) (st.tm 7) (st.tm 8) (st.tm 9) (st.tm 10) st.g (fun s g => R4 ((st.tm 0), (st.tm 1)) s g) K
theorem J34_15_ok (R4 : LV × LV → LV → LHeap → Prop) (K : LV → LHeap → Prop) (tm : Nat → LV) (g : LHeap) (h : J34_15 (tm 0) (tm 1) (tm 5) (tm 6) (tm 7) (tm 8) (tm 9) (tm 10) g (fun s g => R4 ((tm 0), (tm 1)) s g) K) : codeL Try.prog (Ok Try.prog) (nd34 [1, 1, 0, 1, 0, 0, 1, 0, 0, 1, 1, 1, 1, 1, 0, 1]) ⟨tm, g⟩ (thenL (kj34_12 R4 K) (exitL 1 (thenL (kj34_6 R4 K) (roundK (fun tm : Nat → LV => (tm 0, tm 1)) (fun tm : Nat → LV => tm 5) R4 (exitL 0 (thenL (kj34_2  K) (en34 K))))))) := by
  refine block_i (b := nd34 [1, 1, 0, 1, 0, 0, 1, 0, 0, 1, 1, 1, 1, 1, 0, 1, 0]) (i := 2) (by kernel_rfl) ?_
  exact loop_glue (b := nd34 [1, 1, 0, 1, 0, 0, 1, 0, 0, 1, 1, 1, 1, 1, 0, 1, 0, 0]) (by kernel_rfl) (fun tm : Nat → LV => (tm 0, tm 1, tm 5, tm 6, tm 7, tm 8, tm 9)) (fun tm : Nat → LV => tm 10) (fun a s g N => L34_16 a.1 a.2.1 a.2.2.1 a.2.2.2.1 a.2.2.2.2.1 a.2.2.2.2.2.1 a.2.2.2.2.2.2 s g N (fun s g => R4 ((a.1), (a.2.1)) s g) K) (fun tm g R h => L34_16_ok R R4 K tm g h) tm g h

noncomputable def J34_11 (x0 x1 x5 x6 x7 x8 x9 : LV) (g : LHeap) (N4 : LV → LHeap → Prop) (K : LV → LHeap → Prop) : Prop :=
  J34_15 x0 x1 x5 x6 x7 x8 x9 (.int .i64 (0)) g N4 K
abbrev kj34_11 (R4 : LV × LV → LV → LHeap → Prop) (K : LV → LHeap → Prop) : LSt → Prop := fun st => J34_11 (st.tm 0) (st.tm 1) (st.tm 5) (st.tm 6) (st.tm 7) (st.tm 8) (st.tm 9) st.g (fun s g => R4 ((st.tm 0), (st.tm 1)) s g) K
theorem J34_11_ok (R4 : LV × LV → LV → LHeap → Prop) (K : LV → LHeap → Prop) (tm : Nat → LV) (g : LHeap) (h : J34_11 (tm 0) (tm 1) (tm 5) (tm 6) (tm 7) (tm 8) (tm 9) g (fun s g => R4 ((tm 0), (tm 1)) s g) K) : codeL Try.prog (Ok Try.prog) (nd34 [1, 1, 0, 1, 0, 0, 1, 0, 0, 1, 1, 1, 1, 1]) ⟨tm, g⟩ (exitL 1 (thenL (kj34_6 R4 K) (roundK (fun tm : Nat → LV => (tm 0, tm 1)) (fun tm : Nat → LV => tm 5) R4 (exitL 0 (thenL (kj34_2  K) (en34 K)))))) := by
  refine seq_i (a := nd34 [1, 1, 0, 1, 0, 0, 1, 0, 0, 1, 1, 1, 1, 1, 0]) (b := nd34 [1, 1, 0, 1, 0, 0, 1, 0, 0, 1, 1, 1, 1, 1, 1]) (k' := kj34_12 R4 K) (by kernel_rfl) (fun st h => J34_12_ok R4 K st.tm st.g h) ?_
  refine seq_i (a := nd34 [1, 1, 0, 1, 0, 0, 1, 0, 0, 1, 1, 1, 1, 1, 0, 0]) (b := nd34 [1, 1, 0, 1, 0, 0, 1, 0, 0, 1, 1, 1, 1, 1, 0, 1]) (k' := kj34_15 R4 K) (by kernel_rfl) (fun st h => J34_15_ok R4 K st.tm st.g h) ?_
  try unfold J34_11 at h
  unfold kj34_15
  generalize @J34_15 = Q34_15 at h ⊢
  unfold kj34_12
  generalize @J34_12 = Q34_12 at h ⊢
  unfold kj34_6
  generalize @J34_6 = Q34_6 at h ⊢
  unfold kj34_2
  generalize @J34_2 = Q34_2 at h ⊢
  refine code2_sound ok_mono _ _ _ ?_
  refine kmp ?_ h
  generalize Ok Try.prog = C
  unfold en34
  as_aux_lemma => kernel_rfl

noncomputable def J34_10 (x0 x1 x5 x6 x7 x8 x9 : LV) (g : LHeap) (N4 : LV → LHeap → Prop) (K : LV → LHeap → Prop) : Prop :=
  oK (builtinL Try.prog .len [24] [x6] g) fun t65 g =>
  oK (builtinL Try.prog .len [24] [x7] g) fun t67 g =>
  vK (binL Try.prog .neq 3 false t65 t67) fun t68 =>
  gd t68 false g (fun K => K x8 g) fun t70 g =>
  gd t68 false g (fun K => oK (builtinL Try.prog .len [50] [t70] g) K) fun t71 g =>
  gd t68 false g (fun K => K x9 g) fun t72 g =>
  gd t68 false g (fun K => vK (binL Try.prog .neq 3 false t71 t72) fun v => K v g) fun t73 g =>
  vK (pickL t68 (.bool true) t73) fun t74 =>
  ifB t74 (
  K (.bool false) g) (
  J34_11 x0 x1 x5 x6 x7 x8 x9 g N4 K)
abbrev kj34_10 (R4 : LV × LV → LV → LHeap → Prop) (K : LV → LHeap → Prop) : LSt → Prop := fun st => J34_10 (st.tm 0) (st.tm 1) (st.tm 5) (st.tm 6) (st.tm 7) (st.tm 8) (st.tm 9) st.g (fun s g => R4 ((st.tm 0), (st.tm 1)) s g) K
theorem J34_10_ok (R4 : LV × LV → LV → LHeap → Prop) (K : LV → LHeap → Prop) (tm : Nat → LV) (g : LHeap) (h : J34_10 (tm 0) (tm 1) (tm 5) (tm 6) (tm 7) (tm 8) (tm 9) g (fun s g => R4 ((tm 0), (tm 1)) s g) K) : codeL Try.prog (Ok Try.prog) (nd34 [1, 1, 0, 1, 0, 0, 1, 0, 0, 1, 1, 1, 1]) ⟨tm, g⟩ (exitL 1 (thenL (kj34_6 R4 K) (roundK (fun tm : Nat → LV => (tm 0, tm 1)) (fun tm : Nat → LV => tm 5) R4 (exitL 0 (thenL (kj34_2  K) (en34 K)))))) := by
  refine seq_i (a := nd34 [1, 1, 0, 1, 0, 0, 1, 0, 0, 1, 1, 1, 1, 0]) (b := nd34 [1, 1, 0, 1, 0, 0, 1, 0, 0, 1, 1, 1, 1, 1]) (k' := kj34_11 R4 K) (by kernel_rfl) (fun st h => J34_11_ok R4 K st.tm st.g h) ?_
  try unfold J34_10 at h
  unfold kj34_11
  generalize @J34_11 = Q34_11 at h ⊢
  unfold kj34_6
  generalize @J34_6 = Q34_6 at h ⊢
  unfold kj34_2
  generalize @J34_2 = Q34_2 at h ⊢
  refine code2_sound ok_mono _ _ _ ?_
  refine kmp ?_ h
  generalize Ok Try.prog = C
  unfold en34
  as_aux_lemma => kernel_rfl

noncomputable def J34_9 (x0 x1 x5 x6 x7 x8 x9 : LV) (g : LHeap) (N4 : LV → LHeap → Prop) (K : LV → LHeap → Prop) : Prop :=
  vK (binL Try.prog .geq 3 true x5 (.int .i64 (0))) fun t46 =>
  gd t46 true g (fun K => K x5 g) fun t48 g =>
  gd t46 true g (fun K => K x1 g) fun t49 g =>
  gd t46 true g (fun K => vK (nilCheckL t49) fun v => K v g) fun t50 g =>
  gd t46 true g (fun K => vK (fieldAddrL 1 t50) fun v => K v g) fun t51 g =>
  gd t46 true g (fun K => vK (loadV none t51 g) fun v => K v g) fun t52 g =>
  gd t46 true g (fun K => oK (builtinL Try.prog .len [111] [t52] g) K) fun t53 g =>
  gd t46 true g (fun K => vK (binL Try.prog .lss 3 false t48 t53) fun v => K v g) fun t54 g =>
  vK (pickL t46 t54 (.bool false)) fun t55 =>
  ifB t55 (
  vK (nilCheckL x1) fun t57 =>
  vK (fieldAddrL 1 t57) fun t58 =>
  vK (loadV none t58 g) fun t59 =>
  vK (ixAddrL none 1 t59 x5) fun t61 =>
  vK (loadV none t61 g) fun t62 =>
  oK (builtinL Try.prog .len [115] [t62] g) fun t63 g =>
  J34_10 x0 x1 x5 x6 x7 x8 t63 g N4 K) (
  J34_10 x0 x1 x5 x6 x7 x8 x9 g N4 K)
abbrev kj34_9 (R4 : LV × LV → LV → LHeap → Prop) (K : LV → LHeap → Prop) : LSt → Prop := fun st => J34_9 (st.tm 0) (st.tm 1) (st.tm 5) (st.tm 6) (st.tm 7) (st.tm 8) (st.tm 9) st.g (fun s g => R4 ((st.tm 0), (st.tm 1)) s g) K
theorem J34_9_ok (R4 : LV × LV → LV → LHeap → Prop) (K : LV → LHeap → Prop) (tm : Nat → LV) (g : LHeap) (h : J34_9 (tm 0) (tm 1) (tm 5) (tm 6) (tm 7) (tm 8) (tm 9) g (fun s g => R4 ((tm 0), (tm 1)) s g) K) : codeL Try.prog (Ok Try.prog) (nd34 [1, 1, 0, 1, 0, 0, 1, 0, 0, 1, 1, 1]) ⟨tm, g⟩ (exitL 1 (thenL (kj34_6 R4 K) (roundK (fun tm : Nat → LV => (tm 0, tm 1)) (fun tm : Nat → LV => tm 5) R4 (exitL 0 (thenL (kj34_2  K) (en34 K)))))) := by
  refine seq_i (a := nd34 [1, 1, 0, 1, 0, 0, 1, 0, 0, 1, 1, 1, 0]) (b := nd34 [1, 1, 0, 1, 0, 0, 1, 0, 0, 1, 1, 1, 1]) (k' := kj34_10 R4 K) (by kernel_rfl) (fun st h => J34_10_ok R4 K st.tm st.g h) ?_
  try unfold J34_9 at h
  unfold kj34_10
  generalize @J34_10 = Q34_10 at h ⊢
  unfold kj34_6
  generalize @J34_6 = Q34_6 at h ⊢
  unfold kj34_2
  generalize @J34_2 = Q34_2 at h ⊢
  refine code2_sound ok_mono _ _ _ ?_
  refine kmp ?_ h
  generalize Ok Try.prog = C
  unfold en34
  as_aux_lemma => kernel_rfl

noncomputable def J34_8 (x0 x1 x5 x6 x7 x8 : LV) (g : LHeap) (N4 : LV → LHeap → Prop) (K : LV → LHeap → Prop) : Prop :=
  J34_9 x0 x1 x5 x6 x7 x8 (.int .i64 (0)) g N4 K
abbrev kj34_8 (R4 : LV × LV → LV → LHeap → Prop) (K : LV → LHeap → Prop) : LSt → Prop := fun st => J34_8 (st.tm 0) (st.tm 1) (st.tm 5) (st.tm 6) (st.tm 7) (st.tm 8) st.g (fun s g => R4 ((st.tm 0), (st.tm 1)) s g) K
theorem J34_8_ok (R4 : LV × LV → LV → LHeap → Prop) (K : LV → LHeap → Prop) (tm : Nat → LV) (g : LHeap) (h : J34_8 (tm 0) (tm 1) (tm 5) (tm 6) (tm 7) (tm 8) g (fun s g => R4 ((tm 0), (tm 1)) s g) K) : codeL Try.prog (Ok Try.prog) (nd34 [1, 1, 0, 1, 0, 0, 1, 0, 0, 1, 1]) ⟨tm, g⟩ (exitL 1 (thenL (kj34_6 R4 K) (roundK (fun tm : Nat → LV => (tm 0, tm 1)) (fun tm : Nat → LV => tm 5) R4 (exitL 0 (thenL (kj34_2  K) (en34 K)))))) := by
  refine seq_i (a := nd34 [1, 1, 0, 1, 0, 0, 1, 0, 0, 1, 1, 0]) (b := nd34 [1, 1, 0, 1, 0, 0, 1, 0, 0, 1, 1, 1]) (k' := kj34_9 R4 K) (by kernel_rfl) (fun st h => J34_9_ok R4 K st.tm st.g h) ?_
  try unfold J34_8 at h
  unfold kj34_9
  generalize @J34_9 = Q34_9 at h ⊢
  unfold kj34_6
  generalize @J34_6 = Q34_6 at h ⊢
  unfold kj34_2
  generalize @J34_2 = Q34_2 at h ⊢
  refine code2_sound ok_mono _ _ _ ?_
  refine kmp ?_ h
  generalize Ok Try.prog = C
  unfold en34
  as_aux_lemma => kernel_rfl

noncomputable def J34_7 (x0 x1 x5 x6 x7 : LV) (g : LHeap) (N4 : LV → LHeap → Prop) (K : LV → LHeap → Prop) : Prop :=
  Ok Try.prog 25 [x0, x5] g fun t44 g =>
  J34_8 x0 x1 x5 x6 x7 t44 g N4 K
abbrev kj34_7 (R4 : LV × LV → LV → LHeap → Prop) (K : LV → LHeap → Prop) : LSt → Prop := fun st => J34_7 (st.tm 0) (st.tm 1) (st.tm 5) (st.tm 6) (st.tm 7) st.g (fun s g => R4 ((st.tm 0), (st.tm 1)) s g) K
theorem J34_7_ok (R4 : LV × LV → LV → LHeap → Prop) (K : LV → LHeap → Prop) (tm : Nat → LV) (g : LHeap) (h : J34_7 (tm 0) (tm 1) (tm 5) (tm 6) (tm 7) g (fun s g => R4 ((tm 0), (tm 1)) s g) K) : codeL Try.prog (Ok Try.prog) (nd34 [1, 1, 0, 1, 0, 0, 1, 0, 0, 1]) ⟨tm, g⟩ (exitL 1 (thenL (kj34_6 R4 K) (roundK (fun tm : Nat → LV => (tm 0, tm 1)) (fun tm : Nat → LV => tm 5) R4 (exitL 0 (thenL (kj34_2  K) (en34 K)))))) := by
  refine seq_i (a := nd34 [1, 1, 0, 1, 0, 0, 1, 0, 0, 1, 0]) (b := nd34 [1, 1, 0, 1, 0, 0, 1, 0, 0, 1, 1]) (k' := kj34_8 R4 K) (by kernel_rfl) (fun st h => J34_8_ok R4 K st.tm st.g h) ?_
  try unfold J34_7 at h
  unfold kj34_8
  generalize @J34_8 = Q34_8 at h ⊢
  unfold kj34_6
  generalize @J34_6 = Q34_6 at h ⊢
  unfold kj34_2
  generalize @J34_2 = Q34_2 at h ⊢
  refine code2_sound ok_mono _ _ _ ?_
  refine kmp ?_ h
  generalize Ok Try.prog = C
  unfold en34
  as_aux_lemma => kernel_rfl

noncomputable def J34_5 (x0 x1 x5 : LV) (g : LHeap) (N4 : LV → LHeap → Prop) (K : LV → LHeap → Prop) : Prop :=
  Ok Try.prog 22 [x0, x5] g fun t38 g =>
  Ok Try.prog 60 [x1, x5] g fun t41 g =>
  J34_7 x0 x1 x5 t38 t41 g N4 K
abbrev kj34_5 (R4 : LV × LV → LV → LHeap → Prop) (K : LV → LHeap → Prop) : LSt → Prop := fun st => J34_5 (st.tm 0) (st.tm 1) (st.tm 5) st.g (fun s g => R4 ((st.tm 0), (st.tm 1)) s g) K
theorem J34_5_ok (R4 : LV × LV → LV → LHeap → Prop) (K : LV → LHeap → Prop) (tm : Nat → LV) (g : LHeap) (h : J34_5 (tm 0) (tm 1) (tm 5) g (fun s g => R4 ((tm 0), (tm 1)) s g) K) : codeL Try.prog (Ok Try.prog) (nd34 [1, 1, 0, 1, 0, 0, 1]) ⟨tm, g⟩ (roundK (fun tm : Nat → LV => (tm 0, tm 1)) (fun tm : Nat → LV => tm 5) R4 (exitL 0 (thenL (kj34_2  K) (en34 K)))) := by
  refine seq_i (a := nd34 [1, 1, 0, 1, 0, 0, 1, 0]) (b := nd34 [1, 1, 0, 1, 0, 0, 1, 1]) (k' := kj34_6 R4 K) (by kernel_rfl) (fun st h => J34_6_ok R4 K st.tm st.g h) ?_
  refine block_i (b := nd34 [1, 1, 0, 1, 0, 0, 1, 0, 0]) (i := 1) (by kernel_rfl) ?_
  refine seq_i (a := nd34 [1, 1, 0, 1, 0, 0, 1, 0, 0, 0]) (b := nd34 [1, 1, 0, 1, 0, 0, 1, 0, 0, 1]) (k' := kj34_7 R4 K) (by kernel_rfl) (fun st h => J34_7_ok R4 K st.tm st.g h) ?_
  try unfold J34_5 at h
  unfold kj34_7
  generalize @J34_7 = Q34_7 at h ⊢
  unfold kj34_6
  generalize @J34_6 = Q34_6 at h ⊢
  unfold kj34_2
  generalize @J34_2 = Q34_2 at h ⊢
  refine code2_sound ok_mono _ _ _ ?_
  refine kmp ?_ h
  generalize Ok Try.prog = C
  unfold en34
  as_aux_lemma => kernel_rfl

noncomputable def L34_4 (x0 x1 : LV) (x5 : LV) (g : LHeap) (N4 : LV → LHeap → Prop) (K : LV → LHeap → Prop) : Prop :=
  vK (nilCheckL x1) fun t29 =>
  vK (fieldAddrL 1 t29) fun t30 =>
  vK (loadV none t30 g) fun t31 =>
  oK (builtinL Try.prog .len [111] [t31] g) fun t32 g =>
  vK (binL Try.prog .leq 3 false x5 t32) fun t33 =>
  ifB t33 (
  J34_5 x0 x1 x5 g N4 K) (
  J34_2  g  K)
theorem L34_4_ok (R4 : LV × LV → LV → LHeap → Prop) (K : LV → LHeap → Prop) (tm : Nat → LV) (g : LHeap) (h : L34_4 (tm 0) (tm 1) (tm 5) g (fun s g => R4 ((tm 0), (tm 1)) s g) K) : codeL Try.prog (Ok Try.prog) (nd34 [1, 1, 0, 1, 0, 0]) ⟨tm, g⟩ (roundK (fun tm : Nat → LV => (tm 0, tm 1)) (fun tm : Nat → LV => tm 5) R4 (exitL 0 (thenL (kj34_2  K) (en34 K)))) := by
  refine seq_i (a := nd34 [1, 1, 0, 1, 0, 0, 0]) (b := nd34 [1, 1, 0, 1, 0, 0, 1]) (k' := kj34_5 R4 K) (by kernel_rfl) (fun st h => J34_5_ok R4 K st.tm st.g h) ?_
  try unfold L34_4 at h
  unfold kj34_5
  generalize @J34_5 = Q34_5 at h ⊢
  unfold kj34_2
  generalize @J34_2 = Q34_2 at h ⊢
  refine code2_sound ok_mono _ _ _ ?_
  refine kmp ?_ h
  generalize Ok Try.prog = C
  unfold en34
  as_aux_lemma => kernel_rfl

noncomputable def J34_3 (x0 x1 x5 : LV) (g : LHeap)  (K : LV → LHeap → Prop) : Prop :=
  loopP (fun s g N => L34_4 x0 x1 s g N  K) x5 g
abbrev kj34_3  (K : LV → LHeap → Prop) : LSt → Prop := fun st => J34_3 (st.tm 0) (st.tm 1) (st.tm 5) st.g  K
theorem J34_3_ok  (K : LV → LHeap → Prop) (tm : Nat → LV) (g : LHeap) (h : J34_3 (tm 0) (tm 1) (tm 5) g  K) : codeL Try.prog (Ok Try.prog) (nd34 [1, 1, 0, 1]) ⟨tm, g⟩ (thenL (kj34_2  K) (en34 K)) := by
  refine block_i (b := nd34 [1, 1, 0, 1, 0]) (i := 0) (by kernel_rfl) ?_
  exact loop_glue (b := nd34 [1, 1, 0, 1, 0, 0]) (by kernel_rfl) (fun tm : Nat → LV => (tm 0, tm 1)) (fun tm : Nat → LV => tm 5) (fun a s g N => L34_4 a.1 a.2 s g N  K) (fun tm g R h => L34_4_ok R  K tm g h) tm g h

noncomputable def J34_1 (x0 x1 : LV) (g : LHeap)  (K : LV → LHeap → Prop) : Prop :=
  J34_3 x0 x1 (.int .i64 (-1)) g  K
abbrev kj34_1  (K : LV → LHeap → Prop) : LSt → Prop := fun st => J34_1 (st.tm 0) (st.tm 1) st.g  K
theorem J34_1_ok  (K : LV → LHeap → Prop) (tm : Nat → LV) (g : LHeap) (h : J34_1 (tm 0) (tm 1) g  K) : codeL Try.prog (Ok Try.prog) (nd34 [1, 1]) ⟨tm, g⟩ (en34 K) := by
  refine seq_i (a := nd34 [1, 1, 0]) (b := nd34 [1, 1, 1]) (k' := kj34_2  K) (by kernel_rfl) (fun st h => J34_2_ok  K st.tm st.g h) ?_
  refine seq_i (a := nd34 [1, 1, 0, 0]) (b := nd34 [1, 1, 0, 1]) (k' := kj34_3  K) (by kernel_rfl) (fun st h => J34_3_ok  K st.tm st.g h) ?_
  try unfold J34_1 at h
  unfold kj34_3
  generalize @J34_3 = Q34_3 at h ⊢
  unfold kj34_2
  generalize @J34_2 = Q34_2 at h ⊢
  refine code2_sound ok_mono _ _ _ ?_
  refine kmp ?_ h
  generalize Ok Try.prog = C
  unfold en34
  as_aux_lemma => kernel_rfl

noncomputable def J34_0 (x0 x1 : LV) (g : LHeap)  (K : LV → LHeap → Prop) : Prop :=
  ((Ok Try.prog 35 [x0] g fun t13 g =>
  
  ((Ok Try.prog 59 [x1] g fun t15 g =>
  
  vK (binL Try.prog .neq 3 false t13 t15) fun t16 =>
  gdV t16 false (some x0) fun t18 =>
  gdV t16 false (some x1) fun t20 =>
  gdV t16 false (nilCheckL t20) fun t21 =>
  gdV t16 false (fieldAddrL 1 t21) fun t22 =>
  gdD t16 false (loadV none t22 g) (fun t23 =>
  gdV t16 false (lenL Try.prog 111 t23 g) fun t24 =>
  ((gd t16 false g (fun K => Ok Try.prog 36 [t18] g K) fun t19 g =>
  ((loadV none t22 g) = some t23 ∧ 
  gdV t16 false (binL Try.prog .neq 3 false t19 t24) fun t25 =>
  vK (pickL t16 (.bool true) t25) fun t26 =>
  ifB t26 (
  K (.bool false) g) (
  J34_1 x0 x1 g  K))) ∧ True)) (
  gdV t16 false (lenL Try.prog 111 undefL g) fun t24 =>
  ((gd t16 false g (fun K => Ok Try.prog 36 [t18] g K) fun t19 g =>
  
  gdV t16 false (binL Try.prog .neq 3 false t19 t24) fun t25 =>
  vK (pickL t16 (.bool true) t25) fun t26 =>
  ifB t26 (
  K (.bool false) g) (
  J34_1 x0 x1 g  K)) ∧ True))) ∧ True)) ∧ True)
abbrev kj34_0  (K : LV → LHeap → Prop) : LSt → Prop := fun st => J34_0 (st.tm 0) (st.tm 1) st.g  K
theorem J34_0_ok  (K : LV → LHeap → Prop) (tm : Nat → LV) (g : LHeap) (h : J34_0 (tm 0) (tm 1) g  K) : codeL Try.prog (Ok Try.prog) (nd34 [1]) ⟨tm, g⟩ (en34 K) := by
  refine seq_i (a := nd34 [1, 0]) (b := nd34 [1, 1]) (k' := kj34_1  K) (by kernel_rfl) (fun st h => J34_1_ok  K st.tm st.g h) ?_
  try unfold J34_0 at h
  unfold kj34_1
  generalize @J34_1 = Q34_1 at h ⊢
  refine code3_sound ok_mono (pl := [(1, (.lt 0 false (.lt 2 false (.hv 1 (.hv 3 (.lt 4 false (.lt 5 false (.lt 6 false (.lt 8 false (.lt 9 false (.lt 10 false (.lt 11 true (.lt 12 false (.hv 7 (.lt 13 false (.lt 14 false .nil)) .nil))))))))) .nil) .nil))))]) _ _ _ (by kernel_rfl) ?_
  refine kmp ?_ h
  generalize Ok Try.prog = C
  unfold en34
  as_aux_lemma => kernel_rfl

noncomputable def F34 (x0 x1 : LV) (g : LHeap) (K : LV → LHeap → Prop) : Prop :=
  J34_0 x0 x1 g  K
theorem ok34 {x0 x1 : LV} {g : LHeap} {K : LV → LHeap → Prop} (h : g.Wf → (∀ v ∈ ([x0, x1] : List LV), ∀ b ∈ v.objs, b < g.next) → F34 x0 x1 g K) : Ok Try.prog 34 [x0, x1] g K := by
  refine ok_fw Try.mixed Try.func34 (by kernel_rfl) (by kernel_rfl) (c := nd34 []) (by kernel_rfl) fun wf lt => ?_
  rw [← en34_eq]
  replace h := h wf lt
  generalize hs : startL _ = tm
  replace h : F34 (tm 0) (tm 1) g K := by rw [← hs]; exact h
  refine seq_i (a := nd34 [0]) (b := nd34 [1]) (k' := kj34_0  K) (by kernel_rfl) (fun st h => J34_0_ok  K st.tm st.g h) ?_
  try unfold F34 at h
  unfold kj34_0
  generalize @J34_0 = Q34_0 at h ⊢
  refine code2_sound ok_mono _ _ _ ?_
  refine kmp ?_ h
  generalize Ok Try.prog = C
  unfold en34
  as_aux_lemma => kernel_rfl

/-! parapet/parapetref07.New (25 slots) -/
noncomputable def en32 (K : LV → LHeap → Prop) : LEx → LSt → Prop := fun e st => match e with
  | .exit _ => False
  | _ => K (.tuple [(st.tm 4), (st.tm 5)]) st.g
theorem en32_eq (K : LV → LHeap → Prop) : en32 K = endL Try.prog Try.f32 K := by
  funext e st
  cases e <;> kernel_rfl
noncomputable def nd32 (p : List Nat) : Code := subC p (bodyC Try.prog 32)
noncomputable def F32 (x0 x1 : LV) (g : LHeap) (K : LV → LHeap → Prop) : Prop :=
  vK (binL Try.prog .lss 3 true x0 (.int .i64 (1))) fun t7 =>
  gd t7 false g (fun K => K x0 g) fun t9 g =>
  gd t7 false g (fun K => vK (binL Try.prog .gtr 3 true t9 (.int .i64 (8))) fun v => K v g) fun t10 g =>
  vK (pickL t7 (.bool true) t10) fun t11 =>
  gd t11 false g (fun K => K x1 g) fun t13 g =>
  gd t11 false g (fun K => vK (binL Try.prog .lss 3 true t13 (.int .i64 (1))) fun v => K v g) fun t14 g =>
  vK (pickL t11 (.bool true) t14) fun t15 =>
  gd t15 false g (fun K => K x1 g) fun t17 g =>
  gd t15 false g (fun K => vK (binL Try.prog .gtr 3 true t17 (.int .i64 (64))) fun v => K v g) fun t18 g =>
  vK (pickL t15 (.bool true) t18) fun t19 =>
  ifB t19 (
  K (.tuple [.nilp, (.int .i64 (1))]) g) (
  oK (makeSliceL Try.prog 111 x0 x0 g) fun t22 g =>
  vK (buildL Try.prog 114 [(0, x1), (1, t22)]) fun t23 =>
  oK (newL t23 g) fun t24 g =>
  K (.tuple [t24, (.int .i64 (0))]) g)
theorem ok32 {x0 x1 : LV} {g : LHeap} {K : LV → LHeap → Prop} (h : g.Wf → (∀ v ∈ ([x0, x1] : List LV), ∀ b ∈ v.objs, b < g.next) → F32 x0 x1 g K) : Ok Try.prog 32 [x0, x1] g K := by
  refine ok_fw Try.mixed Try.func32 (by kernel_rfl) (by kernel_rfl) (c := nd32 []) (by kernel_rfl) fun wf lt => ?_
  rw [← en32_eq]
  replace h := h wf lt
  generalize hs : startL _ = tm
  replace h : F32 (tm 0) (tm 1) g K := by rw [← hs]; exact h
  try unfold F32 at h
  refine code2_sound ok_mono _ _ _ ?_
  refine kmp ?_ h
  generalize Ok Try.prog = C
  unfold en32
  as_aux_lemma => kernel_rfl

/-! (*parapet/parapetref07.Tlb).Look (49 slots) -/
noncomputable def en53 (K : LV → LHeap → Prop) : LEx → LSt → Prop := fun e st => match e with
  | .exit _ => False
  | _ => K (.tuple [(st.tm 6), (st.tm 7)]) st.g
theorem en53_eq (K : LV → LHeap → Prop) : en53 K = endL Try.prog Try.f53 K := by
  funext e st
  cases e <;> kernel_rfl
noncomputable def nd53 (p : List Nat) : Code := subC p (bodyC Try.prog 53)
noncomputable def J53_2 (g : LHeap)  (K : LV → LHeap → Prop) : Prop :=
  K (.tuple [(.int .u32 (0)), (.bool false)]) g
abbrev kj53_2  (K : LV → LHeap → Prop) : LSt → Prop := fun st => J53_2  st.g  K
theorem J53_2_ok  (K : LV → LHeap → Prop) (tm : Nat → LV) (g : LHeap) (h : J53_2  g  K) : codeL Try.prog (Ok Try.prog) (nd53 [1, 1, 1]) ⟨tm, g⟩ (en53 K) := by
  try unfold J53_2 at h
  refine code2_sound ok_mono _ _ _ ?_
  refine kmp ?_ h
  generalize Ok Try.prog = C
  unfold en53
  as_aux_lemma => kernel_rfl

noncomputable def L53_4 (x0 x1 x5 : LV) (x8 : LV) (g : LHeap) (N4 : LV → LHeap → Prop) (K : LV → LHeap → Prop) : Prop :=
  vK (nilCheckL x0) fun t15 =>
  vK (fieldAddrL 1 t15) fun t16 =>
  vK (loadV none t16 g) fun t17 =>
  vK (ixAddrL none 1 t17 x1) fun t19 =>
  vK (loadV none t19 g) fun t20 =>
  oK (builtinL Try.prog .len [115] [t20] g) fun t21 g =>
  vK (binL Try.prog .lss 3 false x8 t21) fun t22 =>
  ifB t22 (
  vK (nilCheckL x0) fun t26 =>
  vK (fieldAddrL 1 t26) fun t27 =>
  vK (loadV none t27 g) fun t28 =>
  vK (ixAddrL none 1 t28 x1) fun t30 =>
  vK (loadV none t30 g) fun t31 =>
  vK (ixAddrL none 3 t31 x8) fun t33 =>
  vK (fieldAddrL 0 t33) fun t34 =>
  vK (loadV (some 2) t34 g) fun t35 =>
  vK (loadV (some 2) x5 g) fun t36 =>
  vK (binL Try.prog .eql 41 false t35 t36) fun t37 =>
  ifB t37 (
  vK (nilCheckL x0) fun t39 =>
  vK (fieldAddrL 1 t39) fun t40 =>
  vK (loadV none t40 g) fun t41 =>
  vK (ixAddrL none 1 t41 x1) fun t43 =>
  vK (loadV none t43 g) fun t44 =>
  vK (ixAddrL none 3 t44 x8) fun t46 =>
  vK (fieldAddrL 2 t46) fun t47 =>
  vK (loadV none t47 g) fun t48 =>
  K (.tuple [t48, (.bool true)]) g) (
  vK (binL Try.prog .add 3 true x8 (.int .i64 (1))) fun t24 =>
  N4 t24 g)) (
  J53_2  g  K)
theorem L53_4_ok (R4 : LV × LV × LV → LV → LHeap → Prop) (K : LV → LHeap → Prop) (tm : Nat → LV) (g : LHeap) (h : L53_4 (tm 0) (tm 1) (tm 5) (tm 8) g (fun s g => R4 ((tm 0), (tm 1), (tm 5)) s g) K) : codeL Try.prog (Ok Try.prog) (nd53 [1, 1, 0, 1, 0, 0]) ⟨tm, g⟩ (roundK (fun tm : Nat → LV => (tm 0, tm 1, tm 5)) (fun tm : Nat → LV => tm 8) R4 (exitL 0 (thenL (kj53_2  K) (en53 K)))) := by
  try unfold L53_4 at h
  unfold kj53_2
  generalize @J53_2 = Q53_2 at h ⊢
  refine code3_sound ok_mono (pl := [(6, (.lt 0 false (.lt 1 false (.lt 2 false (.lt 3 false (.lt 4 false (.lt 5 false (.lt 6 false (.lt 7 false (.lt 8 false (.lt 9 false (.lt 10 false (.lt 11 false (.lt 12 false .nil))))))))))))))]) _ _ _ (by kernel_rfl) ?_
  refine kmp ?_ h
  generalize Ok Try.prog = C
  unfold en53
  as_aux_lemma => kernel_rfl

noncomputable def J53_3 (x0 x1 x5 x8 : LV) (g : LHeap)  (K : LV → LHeap → Prop) : Prop :=
  loopP (fun s g N => L53_4 x0 x1 x5 s g N  K) x8 g
abbrev kj53_3  (K : LV → LHeap → Prop) : LSt → Prop := fun st => J53_3 (st.tm 0) (st.tm 1) (st.tm 5) (st.tm 8) st.g  K
theorem J53_3_ok  (K : LV → LHeap → Prop) (tm : Nat → LV) (g : LHeap) (h : J53_3 (tm 0) (tm 1) (tm 5) (tm 8) g  K) : codeL Try.prog (Ok Try.prog) (nd53 [1, 1, 0, 1]) ⟨tm, g⟩ (thenL (kj53_2  K) (en53 K)) := by
  refine block_i (b := nd53 [1, 1, 0, 1, 0]) (i := 0) (by kernel_rfl) ?_
  exact loop_glue (b := nd53 [1, 1, 0, 1, 0, 0]) (by kernel_rfl) (fun tm : Nat → LV => (tm 0, tm 1, tm 5)) (fun tm : Nat → LV => tm 8) (fun a s g N => L53_4 a.1 a.2.1 a.2.2 s g N  K) (fun tm g R h => L53_4_ok R  K tm g h) tm g h

noncomputable def J53_1 (x0 x1 x5 : LV) (g : LHeap)  (K : LV → LHeap → Prop) : Prop :=
  J53_3 x0 x1 x5 (.int .i64 (0)) g  K
abbrev kj53_1  (K : LV → LHeap → Prop) : LSt → Prop := fun st => J53_1 (st.tm 0) (st.tm 1) (st.tm 5) st.g  K
theorem J53_1_ok  (K : LV → LHeap → Prop) (tm : Nat → LV) (g : LHeap) (h : J53_1 (tm 0) (tm 1) (tm 5) g  K) : codeL Try.prog (Ok Try.prog) (nd53 [1, 1]) ⟨tm, g⟩ (en53 K) := by
  refine seq_i (a := nd53 [1, 1, 0]) (b := nd53 [1, 1, 1]) (k' := kj53_2  K) (by kernel_rfl) (fun st h => J53_2_ok  K st.tm st.g h) ?_
  refine seq_i (a := nd53 [1, 1, 0, 0]) (b := nd53 [1, 1, 0, 1]) (k' := kj53_3  K) (by kernel_rfl) (fun st h => J53_3_ok  K st.tm st.g h) ?_
  try unfold J53_1 at h
  unfold kj53_3
  generalize @J53_3 = Q53_3 at h ⊢
  unfold kj53_2
  generalize @J53_2 = Q53_2 at h ⊢
  refine code2_sound ok_mono _ _ _ ?_
  refine kmp ?_ h
  generalize Ok Try.prog = C
  unfold en53
  as_aux_lemma => kernel_rfl

noncomputable def J53_0 (x0 x1 x5 : LV) (g : LHeap)  (K : LV → LHeap → Prop) : Prop :=
  Ok Try.prog 79 [x0, x1] g fun t11 g =>
  vK (unL .not t11) fun t12 =>
  ifB t12 (
  K (.tuple [(.int .u32 (0)), (.bool false)]) g) (
  J53_1 x0 x1 x5 g  K)
abbrev kj53_0  (K : LV → LHeap → Prop) : LSt → Prop := fun st => J53_0 (st.tm 0) (st.tm 1) (st.tm 5) st.g  K
theorem J53_0_ok  (K : LV → LHeap → Prop) (tm : Nat → LV) (g : LHeap) (h : J53_0 (tm 0) (tm 1) (tm 5) g  K) : codeL Try.prog (Ok Try.prog) (nd53 [1]) ⟨tm, g⟩ (en53 K) := by
  refine seq_i (a := nd53 [1, 0]) (b := nd53 [1, 1]) (k' := kj53_1  K) (by kernel_rfl) (fun st h => J53_1_ok  K st.tm st.g h) ?_
  try unfold J53_0 at h
  unfold kj53_1
  generalize @J53_1 = Q53_1 at h ⊢
  refine code2_sound ok_mono _ _ _ ?_
  refine kmp ?_ h
  generalize Ok Try.prog = C
  unfold en53
  as_aux_lemma => kernel_rfl

noncomputable def F53 (x0 x1 x2 : LV) (g : LHeap) (K : LV → LHeap → Prop) : Prop :=
  oK (newL x2 g) fun t5 g =>
  J53_0 x0 x1 t5 g  K
theorem ok53 {x0 x1 x2 : LV} {g : LHeap} {K : LV → LHeap → Prop} (h : g.Wf → (∀ v ∈ ([x0, x1, x2] : List LV), ∀ b ∈ v.objs, b < g.next) → F53 x0 x1 x2 g K) : Ok Try.prog 53 [x0, x1, x2] g K := by
  refine ok_fw Try.mixed Try.func53 (by kernel_rfl) (by kernel_rfl) (c := nd53 []) (by kernel_rfl) fun wf lt => ?_
  rw [← en53_eq]
  replace h := h wf lt
  generalize hs : startL _ = tm
  replace h : F53 (tm 0) (tm 1) (tm 2) g K := by rw [← hs]; exact h
  refine seq_i (a := nd53 [0]) (b := nd53 [1]) (k' := kj53_0  K) (by kernel_rfl) (fun st h => J53_0_ok  K st.tm st.g h) ?_
  try unfold F53 at h
  unfold kj53_0
  generalize @J53_0 = Q53_0 at h ⊢
  refine code2_sound ok_mono _ _ _ ?_
  refine kmp ?_ h
  generalize Ok Try.prog = C
  unfold en53
  as_aux_lemma => kernel_rfl

/-! (*parapet/parapetref07.Tlb).Fill (97 slots) -/
noncomputable def en54 (K : LV → LHeap → Prop) : LEx → LSt → Prop := fun e st => match e with
  | .exit _ => False
  | _ => K (st.tm 8) st.g
theorem en54_eq (K : LV → LHeap → Prop) : en54 K = endL Try.prog Try.f54 K := by
  funext e st
  cases e <;> kernel_rfl
noncomputable def nd54 (p : List Nat) : Code := subC p (bodyC Try.prog 54)
noncomputable def J54_3 (x0 x1 x3 x6 : LV) (g : LHeap)  (K : LV → LHeap → Prop) : Prop :=
  vK (nilCheckL x0) fun t80 =>
  vK (fieldAddrL 1 t80) fun t81 =>
  vK (loadV none t81 g) fun t82 =>
  vK (nilCheckL x0) fun t85 =>
  vK (fieldAddrL 1 t85) fun t86 =>
  vK (loadV none t86 g) fun t87 =>
  vK (ixAddrL none 1 t87 x1) fun t89 =>
  vK (loadV none t89 g) fun t90 =>
  vK (loadV (some 2) x6 g) fun t91 =>
  vK (buildL Try.prog 117 [(0, t91), (1, x3)]) fun t93 =>
  ((oK (buildSliceL Try.prog 115 1 [(0, t93)] g) fun t94 g =>
  ((loadV none t89 g) = some t90 ∧ ((loadV none t86 g) = some t87 ∧ ((loadV none t81 g) = some t82 ∧ 
  ((oK (builtinL Try.prog .append [115, 115] [t90, t94] g) fun t95 g =>
  ((loadV none t81 g) = some t82 ∧ 
  vK (ixAddrL none 1 t82 x1) fun t96 =>
  ((gK (storeV 1 t96 t95 g) fun g =>
  
  K (.int .i64 (0)) g) ∧ True))) ∧ True))))) ∧ True)
abbrev kj54_3  (K : LV → LHeap → Prop) : LSt → Prop := fun st => J54_3 (st.tm 0) (st.tm 1) (st.tm 3) (st.tm 6) st.g  K
theorem J54_3_ok  (K : LV → LHeap → Prop) (tm : Nat → LV) (g : LHeap) (h : J54_3 (tm 0) (tm 1) (tm 3) (tm 6) g  K) : codeL Try.prog (Ok Try.prog) (nd54 [1, 1, 1, 1]) ⟨tm, g⟩ (en54 K) := by
  try unfold J54_3 at h
  refine code3_sound ok_mono (pl := [(11, (.lt 0 false (.lt 1 false (.lt 2 false (.lt 3 true (.lt 4 false (.lt 5 false (.lt 6 false (.lt 7 false (.lt 8 true (.lt 9 false (.lt 10 false (.lt 11 true (.lt 12 false (.lt 13 false (.lt 14 false (.hv 15 (.hv 16 (.lt 17 false (.hv 18 .nil .nil)) .nil) .nil)))))))))))))))))]) _ _ _ (by kernel_rfl) ?_
  refine kmp ?_ h
  generalize Ok Try.prog = C
  unfold en54
  as_aux_lemma => kernel_rfl

noncomputable def J54_2 (x0 x1 x3 x6 : LV) (g : LHeap)  (K : LV → LHeap → Prop) : Prop :=
  vK (nilCheckL x0) fun t51 =>
  vK (fieldAddrL 1 t51) fun t52 =>
  vK (loadV none t52 g) fun t53 =>
  vK (ixAddrL none 1 t53 x1) fun t55 =>
  vK (loadV none t55 g) fun t56 =>
  vK (lenL Try.prog 115 t56 g) fun t57 =>
  vK (nilCheckL x0) fun t59 =>
  vK (fieldAddrL 0 t59) fun t60 =>
  vK (loadV none t60 g) fun t61 =>
  vK (binL Try.prog .geq 3 false t57 t61) fun t62 =>
  ifB t62 (
  vK (nilCheckL x0) fun t64 =>
  vK (fieldAddrL 1 t64) fun t65 =>
  vK (loadV none t65 g) fun t66 =>
  vK (nilCheckL x0) fun t70 =>
  vK (fieldAddrL 1 t70) fun t71 =>
  vK (loadV none t71 g) fun t72 =>
  vK (ixAddrL none 1 t72 x1) fun t74 =>
  vK (loadV none t74 g) fun t75 =>
  vK (cutT Try.prog 115 t75 (some (.int .i64 (1))) none none (limL t75 g)) fun t76 =>
  ((oK (buildSliceL Try.prog 115 0 [] g) fun t68 g =>
  ((loadV none t74 g) = some t75 ∧ ((loadV none t71 g) = some t72 ∧ ((loadV none t65 g) = some t66 ∧ 
  ((oK (builtinL Try.prog .append [115, 115] [t68, t76] g) fun t77 g =>
  ((loadV none t65 g) = some t66 ∧ 
  vK (ixAddrL none 1 t66 x1) fun t78 =>
  ((gK (storeV 1 t78 t77 g) fun g =>
  
  J54_3 x0 x1 x3 x6 g  K) ∧ True))) ∧ True))))) ∧ True)) (
  J54_3 x0 x1 x3 x6 g  K)
abbrev kj54_2  (K : LV → LHeap → Prop) : LSt → Prop := fun st => J54_2 (st.tm 0) (st.tm 1) (st.tm 3) (st.tm 6) st.g  K
theorem J54_2_ok  (K : LV → LHeap → Prop) (tm : Nat → LV) (g : LHeap) (h : J54_2 (tm 0) (tm 1) (tm 3) (tm 6) g  K) : codeL Try.prog (Ok Try.prog) (nd54 [1, 1, 1]) ⟨tm, g⟩ (en54 K) := by
  refine seq_i (a := nd54 [1, 1, 1, 0]) (b := nd54 [1, 1, 1, 1]) (k' := kj54_3  K) (by kernel_rfl) (fun st h => J54_3_ok  K st.tm st.g h) ?_
  try unfold J54_2 at h
  unfold kj54_3
  generalize @J54_3 = Q54_3 at h ⊢
  refine code3_sound ok_mono (pl := [(9, (.lt 0 false (.lt 1 false (.lt 2 false (.lt 3 false (.lt 4 false (.lt 5 false (.lt 6 false (.lt 7 false (.lt 8 false (.lt 9 false (.lt 10 false (.lt 11 false (.lt 12 false .nil)))))))))))))), (10, (.lt 0 false (.lt 1 false (.lt 2 false (.lt 3 true (.lt 4 false (.lt 6 false (.lt 7 false (.lt 8 false (.lt 9 true (.lt 10 false (.lt 11 false (.lt 12 true (.lt 13 false (.hv 5 (.hv 14 (.lt 15 false (.hv 16 .nil .nil)) .nil) .nil)))))))))))))))]) _ _ _ (by kernel_rfl) ?_
  refine kmp ?_ h
  generalize Ok Try.prog = C
  unfold en54
  as_aux_lemma => kernel_rfl

noncomputable def L54_5 (x0 x1 x3 x6 : LV) (x9 : LV) (g : LHeap) (N5 : LV → LHeap → Prop) (K : LV → LHeap → Prop) : Prop :=
  vK (nilCheckL x0) fun t16 =>
  vK (fieldAddrL 1 t16) fun t17 =>
  vK (loadV none t17 g) fun t18 =>
  vK (ixAddrL none 1 t18 x1) fun t20 =>
  vK (loadV none t20 g) fun t21 =>
  oK (builtinL Try.prog .len [115] [t21] g) fun t22 g =>
  vK (binL Try.prog .lss 3 false x9 t22) fun t23 =>
  ifB t23 (
  vK (nilCheckL x0) fun t27 =>
  vK (fieldAddrL 1 t27) fun t28 =>
  vK (loadV none t28 g) fun t29 =>
  vK (ixAddrL none 1 t29 x1) fun t31 =>
  vK (loadV none t31 g) fun t32 =>
  vK (ixAddrL none 3 t32 x9) fun t34 =>
  vK (fieldAddrL 0 t34) fun t35 =>
  vK (loadV (some 2) t35 g) fun t36 =>
  vK (loadV (some 2) x6 g) fun t37 =>
  vK (binL Try.prog .eql 41 false t36 t37) fun t38 =>
  ifB t38 (
  vK (nilCheckL x0) fun t40 =>
  vK (fieldAddrL 1 t40) fun t41 =>
  vK (loadV none t41 g) fun t42 =>
  vK (ixAddrL none 1 t42 x1) fun t44 =>
  vK (loadV none t44 g) fun t45 =>
  vK (ixAddrL none 3 t45 x9) fun t48 =>
  vK (fieldAddrL 2 t48) fun t49 =>
  gK (storeV 1 t49 x3 g) fun g =>
  K (.int .i64 (0)) g) (
  vK (binL Try.prog .add 3 true x9 (.int .i64 (1))) fun t25 =>
  N5 t25 g)) (
  J54_2 x0 x1 x3 x6 g  K)
theorem L54_5_ok (R5 : LV × LV × LV × LV → LV → LHeap → Prop) (K : LV → LHeap → Prop) (tm : Nat → LV) (g : LHeap) (h : L54_5 (tm 0) (tm 1) (tm 3) (tm 6) (tm 9) g (fun s g => R5 ((tm 0), (tm 1), (tm 3), (tm 6)) s g) K) : codeL Try.prog (Ok Try.prog) (nd54 [1, 1, 0, 1, 0, 0]) ⟨tm, g⟩ (roundK (fun tm : Nat → LV => (tm 0, tm 1, tm 3, tm 6)) (fun tm : Nat → LV => tm 9) R5 (exitL 0 (thenL (kj54_2  K) (en54 K)))) := by
  try unfold L54_5 at h
  unfold kj54_2
  generalize @J54_2 = Q54_2 at h ⊢
  refine code3_sound ok_mono (pl := [(6, (.lt 0 false (.lt 1 false (.lt 2 false (.lt 3 false (.lt 4 false (.lt 5 false (.lt 6 false (.lt 7 false (.lt 8 false (.lt 9 false (.lt 10 false (.lt 11 false (.lt 12 false .nil))))))))))))))]) _ _ _ (by kernel_rfl) ?_
  refine kmp ?_ h
  generalize Ok Try.prog = C
  unfold en54
  as_aux_lemma => kernel_rfl

noncomputable def J54_4 (x0 x1 x3 x6 x9 : LV) (g : LHeap)  (K : LV → LHeap → Prop) : Prop :=
  loopP (fun s g N => L54_5 x0 x1 x3 x6 s g N  K) x9 g
abbrev kj54_4  (K : LV → LHeap → Prop) : LSt → Prop := fun st => J54_4 (st.tm 0) (st.tm 1) (st.tm 3) (st.tm 6) (st.tm 9) st.g  K
theorem J54_4_ok  (K : LV → LHeap → Prop) (tm : Nat → LV) (g : LHeap) (h : J54_4 (tm 0) (tm 1) (tm 3) (tm 6) (tm 9) g  K) : codeL Try.prog (Ok Try.prog) (nd54 [1, 1, 0, 1]) ⟨tm, g⟩ (thenL (kj54_2  K) (en54 K)) := by
  refine block_i (b := nd54 [1, 1, 0, 1, 0]) (i := 0) (by kernel_rfl) ?_
  exact loop_glue (b := nd54 [1, 1, 0, 1, 0, 0]) (by kernel_rfl) (fun tm : Nat → LV => (tm 0, tm 1, tm 3, tm 6)) (fun tm : Nat → LV => tm 9) (fun a s g N => L54_5 a.1 a.2.1 a.2.2.1 a.2.2.2 s g N  K) (fun tm g R h => L54_5_ok R  K tm g h) tm g h

noncomputable def J54_1 (x0 x1 x3 x6 : LV) (g : LHeap)  (K : LV → LHeap → Prop) : Prop :=
  J54_4 x0 x1 x3 x6 (.int .i64 (0)) g  K
abbrev kj54_1  (K : LV → LHeap → Prop) : LSt → Prop := fun st => J54_1 (st.tm 0) (st.tm 1) (st.tm 3) (st.tm 6) st.g  K
theorem J54_1_ok  (K : LV → LHeap → Prop) (tm : Nat → LV) (g : LHeap) (h : J54_1 (tm 0) (tm 1) (tm 3) (tm 6) g  K) : codeL Try.prog (Ok Try.prog) (nd54 [1, 1]) ⟨tm, g⟩ (en54 K) := by
  refine seq_i (a := nd54 [1, 1, 0]) (b := nd54 [1, 1, 1]) (k' := kj54_2  K) (by kernel_rfl) (fun st h => J54_2_ok  K st.tm st.g h) ?_
  refine seq_i (a := nd54 [1, 1, 0, 0]) (b := nd54 [1, 1, 0, 1]) (k' := kj54_4  K) (by kernel_rfl) (fun st h => J54_4_ok  K st.tm st.g h) ?_
  try unfold J54_1 at h
  unfold kj54_4
  generalize @J54_4 = Q54_4 at h ⊢
  unfold kj54_2
  generalize @J54_2 = Q54_2 at h ⊢
  refine code2_sound ok_mono _ _ _ ?_
  refine kmp ?_ h
  generalize Ok Try.prog = C
  unfold en54
  as_aux_lemma => kernel_rfl

noncomputable def J54_0 (x0 x1 x3 x6 : LV) (g : LHeap)  (K : LV → LHeap → Prop) : Prop :=
  Ok Try.prog 79 [x0, x1] g fun t12 g =>
  vK (unL .not t12) fun t13 =>
  ifB t13 (
  K (.int .i64 (1)) g) (
  J54_1 x0 x1 x3 x6 g  K)
abbrev kj54_0  (K : LV → LHeap → Prop) : LSt → Prop := fun st => J54_0 (st.tm 0) (st.tm 1) (st.tm 3) (st.tm 6) st.g  K
theorem J54_0_ok  (K : LV → LHeap → Prop) (tm : Nat → LV) (g : LHeap) (h : J54_0 (tm 0) (tm 1) (tm 3) (tm 6) g  K) : codeL Try.prog (Ok Try.prog) (nd54 [1]) ⟨tm, g⟩ (en54 K) := by
  refine seq_i (a := nd54 [1, 0]) (b := nd54 [1, 1]) (k' := kj54_1  K) (by kernel_rfl) (fun st h => J54_1_ok  K st.tm st.g h) ?_
  try unfold J54_0 at h
  unfold kj54_1
  generalize @J54_1 = Q54_1 at h ⊢
  refine code2_sound ok_mono _ _ _ ?_
  refine kmp ?_ h
  generalize Ok Try.prog = C
  unfold en54
  as_aux_lemma => kernel_rfl

noncomputable def F54 (x0 x1 x2 x3 : LV) (g : LHeap) (K : LV → LHeap → Prop) : Prop :=
  oK (newL x2 g) fun t6 g =>
  J54_0 x0 x1 x3 t6 g  K
theorem ok54 {x0 x1 x2 x3 : LV} {g : LHeap} {K : LV → LHeap → Prop} (h : g.Wf → (∀ v ∈ ([x0, x1, x2, x3] : List LV), ∀ b ∈ v.objs, b < g.next) → F54 x0 x1 x2 x3 g K) : Ok Try.prog 54 [x0, x1, x2, x3] g K := by
  refine ok_fw Try.mixed Try.func54 (by kernel_rfl) (by kernel_rfl) (c := nd54 []) (by kernel_rfl) fun wf lt => ?_
  rw [← en54_eq]
  replace h := h wf lt
  generalize hs : startL _ = tm
  replace h : F54 (tm 0) (tm 1) (tm 2) (tm 3) g K := by rw [← hs]; exact h
  refine seq_i (a := nd54 [0]) (b := nd54 [1]) (k' := kj54_0  K) (by kernel_rfl) (fun st h => J54_0_ok  K st.tm st.g h) ?_
  try unfold F54 at h
  unfold kj54_0
  generalize @J54_0 = Q54_0 at h ⊢
  refine code2_sound ok_mono _ _ _ ?_
  refine kmp ?_ h
  generalize Ok Try.prog = C
  unfold en54
  as_aux_lemma => kernel_rfl

/-! (*parapet/parapetref07.Tlb).Flush (72 slots) -/
noncomputable def en55 (K : LV → LHeap → Prop) : LEx → LSt → Prop := fun e st => match e with
  | .exit _ => False
  | _ => K (st.tm 6) st.g
theorem en55_eq (K : LV → LHeap → Prop) : en55 K = endL Try.prog Try.f55 K := by
  funext e st
  cases e <;> kernel_rfl
noncomputable def nd55 (p : List Nat) : Code := subC p (bodyC Try.prog 55)
noncomputable def J55_3 (x0 x1 x7 : LV) (g : LHeap)  (K : LV → LHeap → Prop) : Prop :=
  vK (nilCheckL x0) fun t54 =>
  vK (fieldAddrL 1 t54) fun t55 =>
  vK (loadV none t55 g) fun t56 =>
  vK (ixAddrL none 1 t56 x1) fun t58 =>
  vK (loadV none t58 g) fun t59 =>
  oK (builtinL Try.prog .len [115] [t59] g) fun t60 g =>
  oK (builtinL Try.prog .len [115] [x7] g) fun t62 g =>
  vK (binL Try.prog .sub 3 false t60 t62) fun t63 =>
  vK (nilCheckL x0) fun t65 =>
  vK (fieldAddrL 1 t65) fun t66 =>
  vK (loadV none t66 g) fun t67 =>
  vK (ixAddrL none 1 t67 x1) fun t70 =>
  gK (storeV 1 t70 x7 g) fun g =>
  K t63 g
abbrev kj55_3  (K : LV → LHeap → Prop) : LSt → Prop := fun st => J55_3 (st.tm 0) (st.tm 1) (st.tm 7) st.g  K
theorem J55_3_ok  (K : LV → LHeap → Prop) (tm : Nat → LV) (g : LHeap) (h : J55_3 (tm 0) (tm 1) (tm 7) g  K) : codeL Try.prog (Ok Try.prog) (nd55 [1, 1, 1, 1]) ⟨tm, g⟩ (en55 K) := by
  try unfold J55_3 at h
  refine code2_sound ok_mono _ _ _ ?_
  refine kmp ?_ h
  generalize Ok Try.prog = C
  unfold en55
  as_aux_lemma => kernel_rfl

noncomputable def L55_5 (x0 x1 x2 : LV) (x7 x8 : LV) (g : LHeap) (N5 : LV × LV → LHeap → Prop) (K : LV → LHeap → Prop) : Prop :=
  vK (nilCheckL x0) fun t16 =>
  vK (fieldAddrL 1 t16) fun t17 =>
  vK (loadV none t17 g) fun t18 =>
  vK (ixAddrL none 1 t18 x1) fun t20 =>
  vK (loadV none t20 g) fun t21 =>
  oK (builtinL Try.prog .len [115] [t21] g) fun t22 g =>
  vK (binL Try.prog .lss 3 false x8 t22) fun t23 =>
  ifB t23 (
  vK (nilCheckL x0) fun t27 =>
  vK (fieldAddrL 1 t27) fun t28 =>
  vK (loadV none t28 g) fun t29 =>
  vK (ixAddrL none 1 t29 x1) fun t31 =>
  vK (loadV none t31 g) fun t32 =>
  vK (ixAddrL none 3 t32 x8) fun t34 =>
  vK (fieldAddrL 0 t34) fun t35 =>
  vK (fieldAddrL 0 t35) fun t36 =>
  vK (loadV none t36 g) fun t37 =>
  vK (binL Try.prog .neq 3 false t37 x2) fun t39 =>
  ifB t39 (
  vK (nilCheckL x0) fun t42 =>
  vK (fieldAddrL 1 t42) fun t43 =>
  vK (loadV none t43 g) fun t44 =>
  vK (ixAddrL none 1 t44 x1) fun t46 =>
  vK (loadV none t46 g) fun t47 =>
  vK (ixAddrL none 3 t47 x8) fun t49 =>
  vK (loadV (some 3) t49 g) fun t50 =>
  oK (buildSliceL Try.prog 115 1 [(0, t50)] g) fun t51 g =>
  oK (builtinL Try.prog .append [115, 115] [x7, t51] g) fun t52 g =>
  vK (binL Try.prog .add 3 true x8 (.int .i64 (1))) fun t25 =>
  N5 (t52, t25) g) (
  vK (binL Try.prog .add 3 true x8 (.int .i64 (1))) fun t25 =>
  N5 (x7, t25) g)) (
  J55_3 x0 x1 x7 g  K)
theorem L55_5_ok (R5 : LV × LV × LV → LV × LV → LHeap → Prop) (K : LV → LHeap → Prop) (tm : Nat → LV) (g : LHeap) (h : L55_5 (tm 0) (tm 1) (tm 2) (tm 7) (tm 8) g (fun s g => R5 ((tm 0), (tm 1), (tm 2)) s g) K) : codeL Try.prog (Ok Try.prog) (nd55 [1, 1, 1, 0, 1, 0, 0]) ⟨tm, g⟩ (roundK (fun tm : Nat → LV => (tm 0, tm 1, tm 2)) (fun tm : Nat → LV => (tm 7, tm 8)) R5 (exitL 0 (thenL (kj55_3  K) (en55 K)))) := by
  try unfold L55_5 at h
  unfold kj55_3
  generalize @J55_3 = Q55_3 at h ⊢
  refine code2_sound ok_mono _ _ _ ?_
  refine kmp ?_ h
  generalize Ok Try.prog = C
  unfold en55
  as_aux_lemma => kernel_rfl

noncomputable def J55_4 (x0 x1 x2 x7 x8 : LV) (g : LHeap)  (K : LV → LHeap → Prop) : Prop :=
  loopP (fun s g N => L55_5 x0 x1 x2 s.1 s.2 g N  K) (x7, x8) g
abbrev kj55_4  (K : LV → LHeap → Prop) : LSt → Prop := fun st => J55_4 (st.tm 0) (st.tm 1) (st.tm 2) (st.tm 7) (st.tm 8) st.g  K
theorem J55_4_ok  (K : LV → LHeap → Prop) (tm : Nat → LV) (g : LHeap) (h : J55_4 (tm 0) (tm 1) (tm 2) (tm 7) (tm 8) g  K) : codeL Try.prog (Ok Try.prog) (nd55 [1, 1, 1, 0, 1]) ⟨tm, g⟩ (thenL (kj55_3  K) (en55 K)) := by
  refine block_i (b := nd55 [1, 1, 1, 0, 1, 0]) (i := 0) (by kernel_rfl) ?_
  exact loop_glue (b := nd55 [1, 1, 1, 0, 1, 0, 0]) (by kernel_rfl) (fun tm : Nat → LV => (tm 0, tm 1, tm 2)) (fun tm : Nat → LV => (tm 7, tm 8)) (fun a s g N => L55_5 a.1 a.2.1 a.2.2 s.1 s.2 g N  K) (fun tm g R h => L55_5_ok R  K tm g h) tm g h

noncomputable def J55_2 (x0 x1 x2 x7 : LV) (g : LHeap)  (K : LV → LHeap → Prop) : Prop :=
  J55_4 x0 x1 x2 x7 (.int .i64 (0)) g  K
abbrev kj55_2  (K : LV → LHeap → Prop) : LSt → Prop := fun st => J55_2 (st.tm 0) (st.tm 1) (st.tm 2) (st.tm 7) st.g  K
theorem J55_2_ok  (K : LV → LHeap → Prop) (tm : Nat → LV) (g : LHeap) (h : J55_2 (tm 0) (tm 1) (tm 2) (tm 7) g  K) : codeL Try.prog (Ok Try.prog) (nd55 [1, 1, 1]) ⟨tm, g⟩ (en55 K) := by
  refine seq_i (a := nd55 [1, 1, 1, 0]) (b := nd55 [1, 1, 1, 1]) (k' := kj55_3  K) (by kernel_rfl) (fun st h => J55_3_ok  K st.tm st.g h) ?_
  refine seq_i (a := nd55 [1, 1, 1, 0, 0]) (b := nd55 [1, 1, 1, 0, 1]) (k' := kj55_4  K) (by kernel_rfl) (fun st h => J55_4_ok  K st.tm st.g h) ?_
  try unfold J55_2 at h
  unfold kj55_4
  generalize @J55_4 = Q55_4 at h ⊢
  unfold kj55_3
  generalize @J55_3 = Q55_3 at h ⊢
  refine code2_sound ok_mono _ _ _ ?_
  refine kmp ?_ h
  generalize Ok Try.prog = C
  unfold en55
  as_aux_lemma => kernel_rfl

noncomputable def J55_1 (x0 x1 x2 : LV) (g : LHeap)  (K : LV → LHeap → Prop) : Prop :=
  J55_2 x0 x1 x2 .nils g  K
abbrev kj55_1  (K : LV → LHeap → Prop) : LSt → Prop := fun st => J55_1 (st.tm 0) (st.tm 1) (st.tm 2) st.g  K
theorem J55_1_ok  (K : LV → LHeap → Prop) (tm : Nat → LV) (g : LHeap) (h : J55_1 (tm 0) (tm 1) (tm 2) g  K) : codeL Try.prog (Ok Try.prog) (nd55 [1, 1]) ⟨tm, g⟩ (en55 K) := by
  refine seq_i (a := nd55 [1, 1, 0]) (b := nd55 [1, 1, 1]) (k' := kj55_2  K) (by kernel_rfl) (fun st h => J55_2_ok  K st.tm st.g h) ?_
  try unfold J55_1 at h
  unfold kj55_2
  generalize @J55_2 = Q55_2 at h ⊢
  refine code2_sound ok_mono _ _ _ ?_
  refine kmp ?_ h
  generalize Ok Try.prog = C
  unfold en55
  as_aux_lemma => kernel_rfl

noncomputable def J55_0 (x0 x1 x2 : LV) (g : LHeap)  (K : LV → LHeap → Prop) : Prop :=
  Ok Try.prog 79 [x0, x1] g fun t12 g =>
  vK (unL .not t12) fun t13 =>
  ifB t13 (
  K (.int .i64 (0)) g) (
  J55_1 x0 x1 x2 g  K)
abbrev kj55_0  (K : LV → LHeap → Prop) : LSt → Prop := fun st => J55_0 (st.tm 0) (st.tm 1) (st.tm 2) st.g  K
theorem J55_0_ok  (K : LV → LHeap → Prop) (tm : Nat → LV) (g : LHeap) (h : J55_0 (tm 0) (tm 1) (tm 2) g  K) : codeL Try.prog (Ok Try.prog) (nd55 [1]) ⟨tm, g⟩ (en55 K) := by
  refine seq_i (a := nd55 [1, 0]) (b := nd55 [1, 1]) (k' := kj55_1  K) (by kernel_rfl) (fun st h => J55_1_ok  K st.tm st.g h) ?_
  try unfold J55_0 at h
  unfold kj55_1
  generalize @J55_1 = Q55_1 at h ⊢
  refine code2_sound ok_mono _ _ _ ?_
  refine kmp ?_ h
  generalize Ok Try.prog = C
  unfold en55
  as_aux_lemma => kernel_rfl

noncomputable def F55 (x0 x1 x2 : LV) (g : LHeap) (K : LV → LHeap → Prop) : Prop :=
  J55_0 x0 x1 x2 g  K
theorem ok55 {x0 x1 x2 : LV} {g : LHeap} {K : LV → LHeap → Prop} (h : g.Wf → (∀ v ∈ ([x0, x1, x2] : List LV), ∀ b ∈ v.objs, b < g.next) → F55 x0 x1 x2 g K) : Ok Try.prog 55 [x0, x1, x2] g K := by
  refine ok_fw Try.mixed Try.func55 (by kernel_rfl) (by kernel_rfl) (c := nd55 []) (by kernel_rfl) fun wf lt => ?_
  rw [← en55_eq]
  replace h := h wf lt
  generalize hs : startL _ = tm
  replace h : F55 (tm 0) (tm 1) (tm 2) g K := by rw [← hs]; exact h
  refine seq_i (a := nd55 [0]) (b := nd55 [1]) (k' := kj55_0  K) (by kernel_rfl) (fun st h => J55_0_ok  K st.tm st.g h) ?_
  try unfold F55 at h
  unfold kj55_0
  generalize @J55_0 = Q55_0 at h ⊢
  refine code2_sound ok_mono _ _ _ ?_
  refine kmp ?_ h
  generalize Ok Try.prog = C
  unfold en55
  as_aux_lemma => kernel_rfl

/-! (*parapet/parapetref07.Tlb).Start (62 slots) -/
noncomputable def en56 (K : LV → LHeap → Prop) : LEx → LSt → Prop := fun e st => match e with
  | .exit _ => False
  | _ => K (.tuple [(st.tm 6), (st.tm 7)]) st.g
theorem en56_eq (K : LV → LHeap → Prop) : en56 K = endL Try.prog Try.f56 K := by
  funext e st
  cases e <;> kernel_rfl
noncomputable def nd56 (p : List Nat) : Code := subC p (bodyC Try.prog 56)
noncomputable def J56_1 (x0 x1 x2 : LV) (g : LHeap)  (K : LV → LHeap → Prop) : Prop :=
  vK (nilCheckL x0) fun t39 =>
  vK (fieldAddrL 2 t39) fun t40 =>
  vK (loadV none t40 g) fun t41 =>
  vK (nilCheckL x0) fun t43 =>
  vK (fieldAddrL 2 t43) fun t44 =>
  vK (loadV none t44 g) fun t45 =>
  vK (lenL Try.prog 112 t45 g) fun t46 =>
  vK (binL Try.prog .add 3 true t46 (.int .i64 (1))) fun t47 =>
  ((oK (buildSliceL Try.prog 24 0 [] g) fun t49 g =>
  ((loadV none t44 g) = some t45 ∧ ((loadV none t40 g) = some t41 ∧ 
  ((oK (builtinL Try.prog .append [24, 24] [t49, x2] g) fun t51 g =>
  ((loadV none t44 g) = some t45 ∧ ((loadV none t40 g) = some t41 ∧ 
  vK (buildL Try.prog 128 [(0, t47), (1, x1), (2, t51)]) fun t52 =>
  ((oK (buildSliceL Try.prog 112 1 [(0, t52)] g) fun t53 g =>
  ((loadV none t40 g) = some t41 ∧ 
  ((oK (builtinL Try.prog .append [112, 112] [t41, t53] g) fun t54 g =>
  
  vK (nilCheckL x0) fun t55 =>
  vK (fieldAddrL 2 t55) fun t56 =>
  ((gK (storeV 1 t56 t54 g) fun g =>
  
  vK (nilCheckL x0) fun t58 =>
  vK (fieldAddrL 2 t58) fun t59 =>
  vK (loadV none t59 g) fun t60 =>
  oK (builtinL Try.prog .len [112] [t60] g) fun t61 g =>
  K (.tuple [t61, (.int .i64 (0))]) g) ∧ True)) ∧ True))) ∧ True)))) ∧ True)))) ∧ True)
abbrev kj56_1  (K : LV → LHeap → Prop) : LSt → Prop := fun st => J56_1 (st.tm 0) (st.tm 1) (st.tm 2) st.g  K
theorem J56_1_ok  (K : LV → LHeap → Prop) (tm : Nat → LV) (g : LHeap) (h : J56_1 (tm 0) (tm 1) (tm 2) g  K) : codeL Try.prog (Ok Try.prog) (nd56 [1, 1]) ⟨tm, g⟩ (en56 K) := by
  try unfold J56_1 at h
  refine code3_sound ok_mono (pl := [(11, (.lt 0 false (.lt 1 false (.lt 2 false (.lt 3 false (.lt 4 true (.lt 5 false (.lt 6 false (.lt 7 false (.lt 8 true (.lt 9 false (.lt 10 false (.lt 11 false (.lt 13 false (.hv 12 (.hv 14 (.lt 15 false (.hv 16 (.hv 17 (.lt 18 false (.lt 19 false (.hv 20 .nil .nil))) .nil) .nil)) .nil) .nil)))))))))))))))]) _ _ _ (by kernel_rfl) ?_
  refine kmp ?_ h
  generalize Ok Try.prog = C
  unfold en56
  as_aux_lemma => kernel_rfl

noncomputable def J56_5 (x0 x1 x2 x8 : LV) (g : LHeap) (N3 : LV → LHeap → Prop) (K : LV → LHeap → Prop) : Prop :=
  vK (binL Try.prog .add 3 true x8 (.int .i64 (1))) fun t15 =>
  N3 t15 g
abbrev kj56_5 (R3 : LV × LV × LV → LV → LHeap → Prop) (K : LV → LHeap → Prop) : LSt → Prop := fun st => J56_5 (st.tm 0) (st.tm 1) (st.tm 2) (st.tm 8) st.g (fun s g => R3 ((st.tm 0), (st.tm 1), (st.tm 2)) s g) K
theorem J56_5_ok (R3 : LV × LV × LV → LV → LHeap → Prop) (K : LV → LHeap → Prop) (tm : Nat → LV) (g : LHeap) (h : J56_5 (tm 0) (tm 1) (tm 2) (tm 8) g (fun s g => R3 ((tm 0), (tm 1), (tm 2)) s g) K) : codeL Try.prog (Ok Try.prog) (nd56 [1, 0, 1, 0, 0, 1, 1]) ⟨tm, g⟩ (roundK (fun tm : Nat → LV => (tm 0, tm 1, tm 2)) (fun tm : Nat → LV => tm 8) R3 (exitL 0 (thenL (kj56_1  K) (en56 K)))) := by
  try unfold J56_5 at h
  unfold kj56_1
  generalize @J56_1 = Q56_1 at h ⊢
  refine code2_sound ok_mono _ _ _ ?_
  refine kmp ?_ h
  generalize Ok Try.prog = C
  unfold en56
  as_aux_lemma => kernel_rfl

noncomputable def L56_8 (x0 x1 x2 x8 : LV) (x9 : LV) (g : LHeap) (N8 : LV → LHeap → Prop) (N3 : LV → LHeap → Prop) (K : LV → LHeap → Prop) : Prop :=
  vK (binL Try.prog .lss 3 false x9 x8) fun t25 =>
  ifB t25 (
  vK (ixAddrL none 1 x2 x9) fun t30 =>
  vK (loadV none t30 g) fun t31 =>
  vK (ixAddrL none 1 x2 x8) fun t34 =>
  vK (loadV none t34 g) fun t35 =>
  vK (binL Try.prog .eql 3 false t31 t35) fun t36 =>
  ifB t36 (
  K (.tuple [(.int .i64 (0)), (.int .i64 (1))]) g) (
  vK (binL Try.prog .add 3 true x9 (.int .i64 (1))) fun t27 =>
  N8 t27 g)) (
  J56_5 x0 x1 x2 x8 g N3 K)
theorem L56_8_ok (R8 : LV × LV × LV × LV → LV → LHeap → Prop) (R3 : LV × LV × LV → LV → LHeap → Prop) (K : LV → LHeap → Prop) (tm : Nat → LV) (g : LHeap) (h : L56_8 (tm 0) (tm 1) (tm 2) (tm 8) (tm 9) g (fun s g => R8 ((tm 0), (tm 1), (tm 2), (tm 8)) s g) (fun s g => R3 ((tm 0), (tm 1), (tm 2)) s g) K) : codeL Try.prog (Ok Try.prog) (nd56 [1, 0, 1, 0, 0, 1, 0, 0, 1, 1, 0, 0]) ⟨tm, g⟩ (roundK (fun tm : Nat → LV => (tm 0, tm 1, tm 2, tm 8)) (fun tm : Nat → LV => tm 9) R8 (exitL 2 (exitL 1 (thenL (kj56_5 R3 K) (roundK (fun tm : Nat → LV => (tm 0, tm 1, tm 2)) (fun tm : Nat → LV => tm 8) R3 (exitL 0 (thenL (kj56_1  K) (en56 K)))))))) := by
  try unfold L56_8 at h
  unfold kj56_5
  generalize @J56_5 = Q56_5 at h ⊢
  unfold kj56_1
  generalize @J56_1 = Q56_1 at h ⊢
  refine code2_sound ok_mono _ _ _ ?_
  refine kmp ?_ h
  generalize Ok Try.prog = C
  unfold en56
  as_aux_lemma => kernel_rfl

noncomputable def J56_7 (x0 x1 x2 x8 x9 : LV) (g : LHeap) (N3 : LV → LHeap → Prop) (K : LV → LHeap → Prop) : Prop :=
  loopP (fun s g N => L56_8 x0 x1 x2 x8 s g N N3 K) x9 g
abbrev kj56_7 (R3 : LV × LV × LV → LV → LHeap → Prop) (K : LV → LHeap → Prop) : LSt → Prop := fun st => J56_7 (st.tm 0) (st.tm 1) (st.tm 2) (st.tm 8) (st.tm 9) st.g (fun s g => R3 ((st.tm 0), (st.tm 1), (st.tm 2)) s g) K
theorem J56_7_ok (R3 : LV × LV × LV → LV → LHeap → Prop) (K : LV → LHeap → Prop) (tm : Nat → LV) (g : LHeap) (h : J56_7 (tm 0) (tm 1) (tm 2) (tm 8) (tm 9) g (fun s g => R3 ((tm 0), (tm 1), (tm 2)) s g) K) : codeL Try.prog (Ok Try.prog) (nd56 [1, 0, 1, 0, 0, 1, 0, 0, 1, 1]) ⟨tm, g⟩ (exitL 1 (thenL (kj56_5 R3 K) (roundK (fun tm : Nat → LV => (tm 0, tm 1, tm 2)) (fun tm : Nat → LV => tm 8) R3 (exitL 0 (thenL (kj56_1  K) (en56 K)))))) := by
  refine block_i (b := nd56 [1, 0, 1, 0, 0, 1, 0, 0, 1, 1, 0]) (i := 2) (by kernel_rfl) ?_
  exact loop_glue (b := nd56 [1, 0, 1, 0, 0, 1, 0, 0, 1, 1, 0, 0]) (by kernel_rfl) (fun tm : Nat → LV => (tm 0, tm 1, tm 2, tm 8)) (fun tm : Nat → LV => tm 9) (fun a s g N => L56_8 a.1 a.2.1 a.2.2.1 a.2.2.2 s g N (fun s g => R3 ((a.1), (a.2.1), (a.2.2.1)) s g) K) (fun tm g R h => L56_8_ok R R3 K tm g h) tm g h

noncomputable def J56_6 (x0 x1 x2 x8 : LV) (g : LHeap) (N3 : LV → LHeap → Prop) (K : LV → LHeap → Prop) : Prop :=
  J56_7 x0 x1 x2 x8 (.int .i64 (0)) g N3 K
abbrev kj56_6 (R3 : LV × LV × LV → LV → LHeap → Prop) (K : LV → LHeap → Prop) : LSt → Prop := fun st => J56_6 (st.tm 0) (st.tm 1) (st.tm 2) (st.tm 8) st.g (fun s g => R3 ((st.tm 0), (st.tm 1), (st.tm 2)) s g) K
theorem J56_6_ok (R3 : LV × LV × LV → LV → LHeap → Prop) (K : LV → LHeap → Prop) (tm : Nat → LV) (g : LHeap) (h : J56_6 (tm 0) (tm 1) (tm 2) (tm 8) g (fun s g => R3 ((tm 0), (tm 1), (tm 2)) s g) K) : codeL Try.prog (Ok Try.prog) (nd56 [1, 0, 1, 0, 0, 1, 0, 0, 1]) ⟨tm, g⟩ (exitL 1 (thenL (kj56_5 R3 K) (roundK (fun tm : Nat → LV => (tm 0, tm 1, tm 2)) (fun tm : Nat → LV => tm 8) R3 (exitL 0 (thenL (kj56_1  K) (en56 K)))))) := by
  refine seq_i (a := nd56 [1, 0, 1, 0, 0, 1, 0, 0, 1, 0]) (b := nd56 [1, 0, 1, 0, 0, 1, 0, 0, 1, 1]) (k' := kj56_7 R3 K) (by kernel_rfl) (fun st h => J56_7_ok R3 K st.tm st.g h) ?_
  try unfold J56_6 at h
  unfold kj56_7
  generalize @J56_7 = Q56_7 at h ⊢
  unfold kj56_5
  generalize @J56_5 = Q56_5 at h ⊢
  unfold kj56_1
  generalize @J56_1 = Q56_1 at h ⊢
  refine code2_sound ok_mono _ _ _ ?_
  refine kmp ?_ h
  generalize Ok Try.prog = C
  unfold en56
  as_aux_lemma => kernel_rfl

noncomputable def J56_4 (x0 x1 x2 x8 : LV) (g : LHeap) (N3 : LV → LHeap → Prop) (K : LV → LHeap → Prop) : Prop :=
  vK (ixAddrL none 1 x2 x8) fun t19 =>
  vK (loadV none t19 g) fun t20 =>
  Ok Try.prog 79 [x0, t20] g fun t21 g =>
  vK (unL .not t21) fun t22 =>
  ifB t22 (
  K (.tuple [(.int .i64 (0)), (.int .i64 (1))]) g) (
  J56_6 x0 x1 x2 x8 g N3 K)
abbrev kj56_4 (R3 : LV × LV × LV → LV → LHeap → Prop) (K : LV → LHeap → Prop) : LSt → Prop := fun st => J56_4 (st.tm 0) (st.tm 1) (st.tm 2) (st.tm 8) st.g (fun s g => R3 ((st.tm 0), (st.tm 1), (st.tm 2)) s g) K
theorem J56_4_ok (R3 : LV × LV × LV → LV → LHeap → Prop) (K : LV → LHeap → Prop) (tm : Nat → LV) (g : LHeap) (h : J56_4 (tm 0) (tm 1) (tm 2) (tm 8) g (fun s g => R3 ((tm 0), (tm 1), (tm 2)) s g) K) : codeL Try.prog (Ok Try.prog) (nd56 [1, 0, 1, 0, 0, 1]) ⟨tm, g⟩ (roundK (fun tm : Nat → LV => (tm 0, tm 1, tm 2)) (fun tm : Nat → LV => tm 8) R3 (exitL 0 (thenL (kj56_1  K) (en56 K)))) := by
  refine seq_i (a := nd56 [1, 0, 1, 0, 0, 1, 0]) (b := nd56 [1, 0, 1, 0, 0, 1, 1]) (k' := kj56_5 R3 K) (by kernel_rfl) (fun st h => J56_5_ok R3 K st.tm st.g h) ?_
  refine block_i (b := nd56 [1, 0, 1, 0, 0, 1, 0, 0]) (i := 1) (by kernel_rfl) ?_
  refine seq_i (a := nd56 [1, 0, 1, 0, 0, 1, 0, 0, 0]) (b := nd56 [1, 0, 1, 0, 0, 1, 0, 0, 1]) (k' := kj56_6 R3 K) (by kernel_rfl) (fun st h => J56_6_ok R3 K st.tm st.g h) ?_
  try unfold J56_4 at h
  unfold kj56_6
  generalize @J56_6 = Q56_6 at h ⊢
  unfold kj56_5
  generalize @J56_5 = Q56_5 at h ⊢
  unfold kj56_1
  generalize @J56_1 = Q56_1 at h ⊢
  refine code2_sound ok_mono _ _ _ ?_
  refine kmp ?_ h
  generalize Ok Try.prog = C
  unfold en56
  as_aux_lemma => kernel_rfl

noncomputable def L56_3 (x0 x1 x2 : LV) (x8 : LV) (g : LHeap) (N3 : LV → LHeap → Prop) (K : LV → LHeap → Prop) : Prop :=
  oK (builtinL Try.prog .len [24] [x2] g) fun t12 g =>
  vK (binL Try.prog .lss 3 false x8 t12) fun t13 =>
  ifB t13 (
  J56_4 x0 x1 x2 x8 g N3 K) (
  J56_1 x0 x1 x2 g  K)
theorem L56_3_ok (R3 : LV × LV × LV → LV → LHeap → Prop) (K : LV → LHeap → Prop) (tm : Nat → LV) (g : LHeap) (h : L56_3 (tm 0) (tm 1) (tm 2) (tm 8) g (fun s g => R3 ((tm 0), (tm 1), (tm 2)) s g) K) : codeL Try.prog (Ok Try.prog) (nd56 [1, 0, 1, 0, 0]) ⟨tm, g⟩ (roundK (fun tm : Nat → LV => (tm 0, tm 1, tm 2)) (fun tm : Nat → LV => tm 8) R3 (exitL 0 (thenL (kj56_1  K) (en56 K)))) := by
  refine seq_i (a := nd56 [1, 0, 1, 0, 0, 0]) (b := nd56 [1, 0, 1, 0, 0, 1]) (k' := kj56_4 R3 K) (by kernel_rfl) (fun st h => J56_4_ok R3 K st.tm st.g h) ?_
  try unfold L56_3 at h
  unfold kj56_4
  generalize @J56_4 = Q56_4 at h ⊢
  unfold kj56_1
  generalize @J56_1 = Q56_1 at h ⊢
  refine code2_sound ok_mono _ _ _ ?_
  refine kmp ?_ h
  generalize Ok Try.prog = C
  unfold en56
  as_aux_lemma => kernel_rfl

noncomputable def J56_2 (x0 x1 x2 x8 : LV) (g : LHeap)  (K : LV → LHeap → Prop) : Prop :=
  loopP (fun s g N => L56_3 x0 x1 x2 s g N  K) x8 g
abbrev kj56_2  (K : LV → LHeap → Prop) : LSt → Prop := fun st => J56_2 (st.tm 0) (st.tm 1) (st.tm 2) (st.tm 8) st.g  K
theorem J56_2_ok  (K : LV → LHeap → Prop) (tm : Nat → LV) (g : LHeap) (h : J56_2 (tm 0) (tm 1) (tm 2) (tm 8) g  K) : codeL Try.prog (Ok Try.prog) (nd56 [1, 0, 1]) ⟨tm, g⟩ (thenL (kj56_1  K) (en56 K)) := by
  refine block_i (b := nd56 [1, 0, 1, 0]) (i := 0) (by kernel_rfl) ?_
  exact loop_glue (b := nd56 [1, 0, 1, 0, 0]) (by kernel_rfl) (fun tm : Nat → LV => (tm 0, tm 1, tm 2)) (fun tm : Nat → LV => tm 8) (fun a s g N => L56_3 a.1 a.2.1 a.2.2 s g N  K) (fun tm g R h => L56_3_ok R  K tm g h) tm g h

noncomputable def J56_0 (x0 x1 x2 : LV) (g : LHeap)  (K : LV → LHeap → Prop) : Prop :=
  J56_2 x0 x1 x2 (.int .i64 (0)) g  K
abbrev kj56_0  (K : LV → LHeap → Prop) : LSt → Prop := fun st => J56_0 (st.tm 0) (st.tm 1) (st.tm 2) st.g  K
theorem J56_0_ok  (K : LV → LHeap → Prop) (tm : Nat → LV) (g : LHeap) (h : J56_0 (tm 0) (tm 1) (tm 2) g  K) : codeL Try.prog (Ok Try.prog) (nd56 [1]) ⟨tm, g⟩ (en56 K) := by
  refine seq_i (a := nd56 [1, 0]) (b := nd56 [1, 1]) (k' := kj56_1  K) (by kernel_rfl) (fun st h => J56_1_ok  K st.tm st.g h) ?_
  refine seq_i (a := nd56 [1, 0, 0]) (b := nd56 [1, 0, 1]) (k' := kj56_2  K) (by kernel_rfl) (fun st h => J56_2_ok  K st.tm st.g h) ?_
  try unfold J56_0 at h
  unfold kj56_2
  generalize @J56_2 = Q56_2 at h ⊢
  unfold kj56_1
  generalize @J56_1 = Q56_1 at h ⊢
  refine code2_sound ok_mono _ _ _ ?_
  refine kmp ?_ h
  generalize Ok Try.prog = C
  unfold en56
  as_aux_lemma => kernel_rfl

noncomputable def F56 (x0 x1 x2 : LV) (g : LHeap) (K : LV → LHeap → Prop) : Prop :=
  J56_0 x0 x1 x2 g  K
theorem ok56 {x0 x1 x2 : LV} {g : LHeap} {K : LV → LHeap → Prop} (h : g.Wf → (∀ v ∈ ([x0, x1, x2] : List LV), ∀ b ∈ v.objs, b < g.next) → F56 x0 x1 x2 g K) : Ok Try.prog 56 [x0, x1, x2] g K := by
  refine ok_fw Try.mixed Try.func56 (by kernel_rfl) (by kernel_rfl) (c := nd56 []) (by kernel_rfl) fun wf lt => ?_
  rw [← en56_eq]
  replace h := h wf lt
  generalize hs : startL _ = tm
  replace h : F56 (tm 0) (tm 1) (tm 2) g K := by rw [← hs]; exact h
  refine seq_i (a := nd56 [0]) (b := nd56 [1]) (k' := kj56_0  K) (by kernel_rfl) (fun st h => J56_0_ok  K st.tm st.g h) ?_
  try unfold F56 at h
  unfold kj56_0
  generalize @J56_0 = Q56_0 at h ⊢
  refine code2_sound ok_mono _ _ _ ?_
  refine kmp ?_ h
  generalize Ok Try.prog = C
  unfold en56
  as_aux_lemma => kernel_rfl

/-! (*parapet/parapetref07.Tlb).Handle (91 slots) -/
noncomputable def en57 (K : LV → LHeap → Prop) : LEx → LSt → Prop := fun e st => match e with
  | .exit _ => False
  | _ => K (st.tm 4) st.g
theorem en57_eq (K : LV → LHeap → Prop) : en57 K = endL Try.prog Try.f57 K := by
  funext e st
  cases e <;> kernel_rfl
noncomputable def nd57 (p : List Nat) : Code := subC p (bodyC Try.prog 57)
noncomputable def J57_2 (x5 : LV) (g : LHeap)  (K : LV → LHeap → Prop) : Prop :=
  K x5 g
abbrev kj57_2  (K : LV → LHeap → Prop) : LSt → Prop := fun st => J57_2 (st.tm 5) st.g  K
theorem J57_2_ok  (K : LV → LHeap → Prop) (tm : Nat → LV) (g : LHeap) (h : J57_2 (tm 5) g  K) : codeL Try.prog (Ok Try.prog) (nd57 [1, 1, 1]) ⟨tm, g⟩ (en57 K) := by
  try unfold J57_2 at h
  refine code2_sound ok_mono _ _ _ ?_
  refine kmp ?_ h
  generalize Ok Try.prog = C
  unfold en57
  as_aux_lemma => kernel_rfl

noncomputable def J57_6 (x0 x1 x5 x6 : LV) (g : LHeap) (N4 : LV × LV → LHeap → Prop) (K : LV → LHeap → Prop) : Prop :=
  vK (binL Try.prog .add 3 true x6 (.int .i64 (1))) fun t17 =>
  N4 (x5, t17) g
abbrev kj57_6 (R4 : LV × LV → LV × LV → LHeap → Prop) (K : LV → LHeap → Prop) : LSt → Prop := fun st => J57_6 (st.tm 0) (st.tm 1) (st.tm 5) (st.tm 6) st.g (fun s g => R4 ((st.tm 0), (st.tm 1)) s g) K
theorem J57_6_ok (R4 : LV × LV → LV × LV → LHeap → Prop) (K : LV → LHeap → Prop) (tm : Nat → LV) (g : LHeap) (h : J57_6 (tm 0) (tm 1) (tm 5) (tm 6) g (fun s g => R4 ((tm 0), (tm 1)) s g) K) : codeL Try.prog (Ok Try.prog) (nd57 [1, 1, 0, 1, 0, 0, 1, 1]) ⟨tm, g⟩ (roundK (fun tm : Nat → LV => (tm 0, tm 1)) (fun tm : Nat → LV => (tm 5, tm 6)) R4 (exitL 0 (thenL (kj57_2  K) (en57 K)))) := by
  try unfold J57_6 at h
  unfold kj57_2
  generalize @J57_2 = Q57_2 at h ⊢
  refine code2_sound ok_mono _ _ _ ?_
  refine kmp ?_ h
  generalize Ok Try.prog = C
  unfold en57
  as_aux_lemma => kernel_rfl

noncomputable def J57_11 (x0 x1 x5 x6 x7 : LV) (g : LHeap) (N4 : LV × LV → LHeap → Prop) (K : LV → LHeap → Prop) : Prop :=
  vK (nilCheckL x0) fun t83 =>
  vK (fieldAddrL 2 t83) fun t84 =>
  vK (loadV none t84 g) fun t85 =>
  vK (ixAddrL none 3 t85 x6) fun t88 =>
  vK (fieldAddrL 2 t88) fun t89 =>
  gK (storeV 1 t89 x7 g) fun g =>
  J57_6 x0 x1 x5 x6 g N4 K
abbrev kj57_11 (R4 : LV × LV → LV × LV → LHeap → Prop) (K : LV → LHeap → Prop) : LSt → Prop := fun st => J57_11 (st.tm 0) (st.tm 1) (st.tm 5) (st.tm 6) (st.tm 7) st.g (fun s g => R4 ((st.tm 0), (st.tm 1)) s g) K
theorem J57_11_ok (R4 : LV × LV → LV × LV → LHeap → Prop) (K : LV → LHeap → Prop) (tm : Nat → LV) (g : LHeap) (h : J57_11 (tm 0) (tm 1) (tm 5) (tm 6) (tm 7) g (fun s g => R4 ((tm 0), (tm 1)) s g) K) : codeL Try.prog (Ok Try.prog) (nd57 [1, 1, 0, 1, 0, 0, 1, 0, 0, 1, 1, 1, 1, 1]) ⟨tm, g⟩ (exitL 1 (thenL (kj57_6 R4 K) (roundK (fun tm : Nat → LV => (tm 0, tm 1)) (fun tm : Nat → LV => (tm 5, tm 6)) R4 (exitL 0 (thenL (kj57_2  K) (en57 K)))))) := by
  try unfold J57_11 at h
  unfold kj57_6
  generalize @J57_6 = Q57_6 at h ⊢
  unfold kj57_2
  generalize @J57_2 = Q57_2 at h ⊢
  refine code2_sound ok_mono _ _ _ ?_
  refine kmp ?_ h
  generalize Ok Try.prog = C
  unfold en57
  as_aux_lemma => kernel_rfl

noncomputable def L57_13 (x0 x1 x5 x6 : LV) (x7 x8 : LV) (g : LHeap) (N13 : LV × LV → LHeap → Prop) (N4 : LV × LV → LHeap → Prop) (K : LV → LHeap → Prop) : Prop :=
  vK (nilCheckL x0) fun t44 =>
  vK (fieldAddrL 2 t44) fun t45 =>
  vK (loadV none t45 g) fun t46 =>
  vK (ixAddrL none 3 t46 x6) fun t48 =>
  vK (fieldAddrL 2 t48) fun t49 =>
  vK (loadV none t49 g) fun t50 =>
  oK (builtinL Try.prog .len [24] [t50] g) fun t51 g =>
  vK (binL Try.prog .lss 3 false x8 t51) fun t52 =>
  ifB t52 (
  vK (nilCheckL x0) fun t56 =>
  vK (fieldAddrL 2 t56) fun t57 =>
  vK (loadV none t57 g) fun t58 =>
  vK (ixAddrL none 3 t58 x6) fun t60 =>
  vK (fieldAddrL 2 t60) fun t61 =>
  vK (loadV none t61 g) fun t62 =>
  vK (ixAddrL none 1 t62 x8) fun t64 =>
  vK (loadV none t64 g) fun t65 =>
  vK (binL Try.prog .neq 3 false t65 x1) fun t67 =>
  ifB t67 (
  vK (nilCheckL x0) fun t70 =>
  vK (fieldAddrL 2 t70) fun t71 =>
  vK (loadV none t71 g) fun t72 =>
  vK (ixAddrL none 3 t72 x6) fun t74 =>
  vK (fieldAddrL 2 t74) fun t75 =>
  vK (loadV none t75 g) fun t76 =>
  vK (ixAddrL none 1 t76 x8) fun t78 =>
  vK (loadV none t78 g) fun t79 =>
  oK (buildSliceL Try.prog 24 1 [(0, t79)] g) fun t80 g =>
  oK (builtinL Try.prog .append [24, 24] [x7, t80] g) fun t81 g =>
  vK (binL Try.prog .add 3 true x8 (.int .i64 (1))) fun t54 =>
  N13 (t81, t54) g) (
  vK (binL Try.prog .add 3 true x8 (.int .i64 (1))) fun t54 =>
  N13 (x7, t54) g)) (
  J57_11 x0 x1 x5 x6 x7 g N4 K)
theorem L57_13_ok (R13 : LV × LV × LV × LV → LV × LV → LHeap → Prop) (R4 : LV × LV → LV × LV → LHeap → Prop) (K : LV → LHeap → Prop) (tm : Nat → LV) (g : LHeap) (h : L57_13 (tm 0) (tm 1) (tm 5) (tm 6) (tm 7) (tm 8) g (fun s g => R13 ((tm 0), (tm 1), (tm 5), (tm 6)) s g) (fun s g => R4 ((tm 0), (tm 1)) s g) K) : codeL Try.prog (Ok Try.prog) (nd57 [1, 1, 0, 1, 0, 0, 1, 0, 0, 1, 1, 1, 1, 0, 1, 0, 0]) ⟨tm, g⟩ (roundK (fun tm : Nat → LV => (tm 0, tm 1, tm 5, tm 6)) (fun tm : Nat → LV => (tm 7, tm 8)) R13 (exitL 2 (thenL (kj57_11 R4 K) (exitL 1 (thenL (kj57_6 R4 K) (roundK (fun tm : Nat → LV => (tm 0, tm 1)) (fun tm : Nat → LV => (tm 5, tm 6)) R4 (exitL 0 (thenL (kj57_2  K) (en57 K))))))))) := by
  try unfold L57_13 at h
  unfold kj57_11
  generalize @J57_11 = Q57_11 at h ⊢
  unfold kj57_6
  generalize @J57_6 = Q57_6 at h ⊢
  unfold kj57_2
  generalize @J57_2 = Q57_2 at h ⊢
  refine code2_sound ok_mono _ _ _ ?_
  refine kmp ?_ h
  generalize Ok Try.prog = C
  unfold en57
  as_aux_lemma => kernel_rfl

noncomputable def J57_12 (x0 x1 x5 x6 x7 x8 : LV) (g : LHeap) (N4 : LV × LV → LHeap → Prop) (K : LV → LHeap → Prop) : Prop :=
  loopP (fun s g N => L57_13 x0 x1 x5 x6 s.1 s.2 g N N4 K) (x7, x8) g
abbrev kj57_12 (R4 : LV × LV → LV × LV → LHeap → Prop) (K : LV → LHeap → Prop) : LSt → Prop := fun st => J57_12 (st.tm 0) (st.tm 1) (st.tm 5) (st.tm 6) (st.tm 7) (st.tm 8) st.g (fun s g => R4 ((st.tm 0), (st.tm 1)) s g) K
theorem J57_12_ok (R4 : LV × LV → LV × LV → LHeap → Prop) (K : LV → LHeap → Prop) (tm : Nat → LV) (g : LHeap) (h : J57_12 (tm 0) (tm 1) (tm 5) (tm 6) (tm 7) (tm 8) g (fun s g => R4 ((tm 0), (tm 1)) s g) K) : codeL Try.prog (Ok Try.prog) (nd57 [1, 1, 0, 1, 0, 0, 1, 0, 0, 1, 1, 1, 1, 0, 1]) ⟨tm, g⟩ (thenL (kj57_11 R4 K) (exitL 1 (thenL (kj57_6 R4 K) (roundK (fun tm : Nat → LV => (tm 0, tm 1)) (fun tm : Nat → LV => (tm 5, tm 6)) R4 (exitL 0 (thenL (kj57_2  K) (en57 K))))))) := by
  refine block_i (b := nd57 [1, 1, 0, 1, 0, 0, 1, 0, 0, 1, 1, 1, 1, 0, 1, 0]) (i := 2) (by kernel_rfl) ?_
  exact loop_glue (b := nd57 [1, 1, 0, 1, 0, 0, 1, 0, 0, 1, 1, 1, 1, 0, 1, 0, 0]) (by kernel_rfl) (fun tm : Nat → LV => (tm 0, tm 1, tm 5, tm 6)) (fun tm : Nat → LV => (tm 7, tm 8)) (fun a s g N => L57_13 a.1 a.2.1 a.2.2.1 a.2.2.2 s.1 s.2 g N (fun s g => R4 ((a.1), (a.2.1)) s g) K) (fun tm g R h => L57_13_ok R R4 K tm g h) tm g h

noncomputable def J57_10 (x0 x1 x5 x6 x7 : LV) (g : LHeap) (N4 : LV × LV → LHeap → Prop) (K : LV → LHeap → Prop) : Prop :=
  J57_12 x0 x1 x5 x6 x7 (.int .i64 (0)) g N4 K
abbrev kj57_10 (R4 : LV × LV → LV × LV → LHeap → Prop) (K : LV → LHeap → Prop) : LSt → Prop := fun st => J57_10 (st.tm 0) (st.tm 1) (st.tm 5) (st.tm 6) (st.tm 7) st.g (fun s g => R4 ((st.tm 0), (st.tm 1)) s g) K
theorem J57_10_ok (R4 : LV × LV → LV × LV → LHeap → Prop) (K : LV → LHeap → Prop) (tm : Nat → LV) (g : LHeap) (h : J57_10 (tm 0) (tm 1) (tm 5) (tm 6) (tm 7) g (fun s g => R4 ((tm 0), (tm 1)) s g) K) : codeL Try.prog (Ok Try.prog) (nd57 [1, 1, 0, 1, 0, 0, 1, 0, 0, 1, 1, 1, 1]) ⟨tm, g⟩ (exitL 1 (thenL (kj57_6 R4 K) (roundK (fun tm : Nat → LV => (tm 0, tm 1)) (fun tm : Nat → LV => (tm 5, tm 6)) R4 (exitL 0 (thenL (kj57_2  K) (en57 K)))))) := by
  refine seq_i (a := nd57 [1, 1, 0, 1, 0, 0, 1, 0, 0, 1, 1, 1, 1, 0]) (b := nd57 [1, 1, 0, 1, 0, 0, 1, 0, 0, 1, 1, 1, 1, 1]) (k' := kj57_11 R4 K) (by kernel_rfl) (fun st h => J57_11_ok R4 K st.tm st.g h) ?_
  refine seq_i (a := nd57 [1, 1, 0, 1, 0, 0, 1, 0, 0, 1, 1, 1, 1, 0, 0]) (b := nd57 [1, 1, 0, 1, 0, 0, 1, 0, 0, 1, 1, 1, 1, 0, 1]) (k' := kj57_12 R4 K) (by kernel_rfl) (fun st h => J57_12_ok R4 K st.tm st.g h) ?_
  try unfold J57_10 at h
  unfold kj57_12
  generalize @J57_12 = Q57_12 at h ⊢
  unfold kj57_11
  generalize @J57_11 = Q57_11 at h ⊢
  unfold kj57_6
  generalize @J57_6 = Q57_6 at h ⊢
  unfold kj57_2
  generalize @J57_2 = Q57_2 at h ⊢
  refine code2_sound ok_mono _ _ _ ?_
  refine kmp ?_ h
  generalize Ok Try.prog = C
  unfold en57
  as_aux_lemma => kernel_rfl

noncomputable def J57_9 (x0 x1 x5 x6 : LV) (g : LHeap) (N4 : LV × LV → LHeap → Prop) (K : LV → LHeap → Prop) : Prop :=
  J57_10 x0 x1 x5 x6 .nils g N4 K
abbrev kj57_9 (R4 : LV × LV → LV × LV → LHeap → Prop) (K : LV → LHeap → Prop) : LSt → Prop := fun st => J57_9 (st.tm 0) (st.tm 1) (st.tm 5) (st.tm 6) st.g (fun s g => R4 ((st.tm 0), (st.tm 1)) s g) K
theorem J57_9_ok (R4 : LV × LV → LV × LV → LHeap → Prop) (K : LV → LHeap → Prop) (tm : Nat → LV) (g : LHeap) (h : J57_9 (tm 0) (tm 1) (tm 5) (tm 6) g (fun s g => R4 ((tm 0), (tm 1)) s g) K) : codeL Try.prog (Ok Try.prog) (nd57 [1, 1, 0, 1, 0, 0, 1, 0, 0, 1, 1, 1]) ⟨tm, g⟩ (exitL 1 (thenL (kj57_6 R4 K) (roundK (fun tm : Nat → LV => (tm 0, tm 1)) (fun tm : Nat → LV => (tm 5, tm 6)) R4 (exitL 0 (thenL (kj57_2  K) (en57 K)))))) := by
  refine seq_i (a := nd57 [1, 1, 0, 1, 0, 0, 1, 0, 0, 1, 1, 1, 0]) (b := nd57 [1, 1, 0, 1, 0, 0, 1, 0, 0, 1, 1, 1, 1]) (k' := kj57_10 R4 K) (by kernel_rfl) (fun st h => J57_10_ok R4 K st.tm st.g h) ?_
  try unfold J57_9 at h
  unfold kj57_10
  generalize @J57_10 = Q57_10 at h ⊢
  unfold kj57_6
  generalize @J57_6 = Q57_6 at h ⊢
  unfold kj57_2
  generalize @J57_2 = Q57_2 at h ⊢
  refine code2_sound ok_mono _ _ _ ?_
  refine kmp ?_ h
  generalize Ok Try.prog = C
  unfold en57
  as_aux_lemma => kernel_rfl

noncomputable def J57_8 (x0 x1 x5 x6 : LV) (g : LHeap) (N4 : LV × LV → LHeap → Prop) (K : LV → LHeap → Prop) : Prop :=
  vK (nilCheckL x0) fun t34 =>
  vK (fieldAddrL 2 t34) fun t35 =>
  vK (loadV none t35 g) fun t36 =>
  vK (ixAddrL none 3 t36 x6) fun t38 =>
  vK (fieldAddrL 1 t38) fun t39 =>
  vK (loadV none t39 g) fun t40 =>
  Ok Try.prog 55 [x0, x1, t40] g fun t41 g =>
  J57_9 x0 x1 x5 x6 g N4 K
abbrev kj57_8 (R4 : LV × LV → LV × LV → LHeap → Prop) (K : LV → LHeap → Prop) : LSt → Prop := fun st => J57_8 (st.tm 0) (st.tm 1) (st.tm 5) (st.tm 6) st.g (fun s g => R4 ((st.tm 0), (st.tm 1)) s g) K
theorem J57_8_ok (R4 : LV × LV → LV × LV → LHeap → Prop) (K : LV → LHeap → Prop) (tm : Nat → LV) (g : LHeap) (h : J57_8 (tm 0) (tm 1) (tm 5) (tm 6) g (fun s g => R4 ((tm 0), (tm 1)) s g) K) : codeL Try.prog (Ok Try.prog) (nd57 [1, 1, 0, 1, 0, 0, 1, 0, 0, 1, 1]) ⟨tm, g⟩ (exitL 1 (thenL (kj57_6 R4 K) (roundK (fun tm : Nat → LV => (tm 0, tm 1)) (fun tm : Nat → LV => (tm 5, tm 6)) R4 (exitL 0 (thenL (kj57_2  K) (en57 K)))))) := by
  refine seq_i (a := nd57 [1, 1, 0, 1, 0, 0, 1, 0, 0, 1, 1, 0]) (b := nd57 [1, 1, 0, 1, 0, 0, 1, 0, 0, 1, 1, 1]) (k' := kj57_9 R4 K) (by kernel_rfl) (fun st h => J57_9_ok R4 K st.tm st.g h) ?_
  try unfold J57_8 at h
  unfold kj57_9
  generalize @J57_9 = Q57_9 at h ⊢
  unfold kj57_6
  generalize @J57_6 = Q57_6 at h ⊢
  unfold kj57_2
  generalize @J57_2 = Q57_2 at h ⊢
  refine code2_sound ok_mono _ _ _ ?_
  refine kmp ?_ h
  generalize Ok Try.prog = C
  unfold en57
  as_aux_lemma => kernel_rfl

noncomputable def J57_7 (x0 x1 x5 x6 : LV) (g : LHeap) (N4 : LV × LV → LHeap → Prop) (K : LV → LHeap → Prop) : Prop :=
  vK (binL Try.prog .add 3 true x5 (.int .i64 (1))) fun t30 =>
  J57_8 x0 x1 t30 x6 g N4 K
abbrev kj57_7 (R4 : LV × LV → LV × LV → LHeap → Prop) (K : LV → LHeap → Prop) : LSt → Prop := fun st => J57_7 (st.tm 0) (st.tm 1) (st.tm 5) (st.tm 6) st.g (fun s g => R4 ((st.tm 0), (st.tm 1)) s g) K
theorem J57_7_ok (R4 : LV × LV → LV × LV → LHeap → Prop) (K : LV → LHeap → Prop) (tm : Nat → LV) (g : LHeap) (h : J57_7 (tm 0) (tm 1) (tm 5) (tm 6) g (fun s g => R4 ((tm 0), (tm 1)) s g) K) : codeL Try.prog (Ok Try.prog) (nd57 [1, 1, 0, 1, 0, 0, 1, 0, 0, 1]) ⟨tm, g⟩ (exitL 1 (thenL (kj57_6 R4 K) (roundK (fun tm : Nat → LV => (tm 0, tm 1)) (fun tm : Nat → LV => (tm 5, tm 6)) R4 (exitL 0 (thenL (kj57_2  K) (en57 K)))))) := by
  refine seq_i (a := nd57 [1, 1, 0, 1, 0, 0, 1, 0, 0, 1, 0]) (b := nd57 [1, 1, 0, 1, 0, 0, 1, 0, 0, 1, 1]) (k' := kj57_8 R4 K) (by kernel_rfl) (fun st h => J57_8_ok R4 K st.tm st.g h) ?_
  try unfold J57_7 at h
  unfold kj57_8
  generalize @J57_8 = Q57_8 at h ⊢
  unfold kj57_6
  generalize @J57_6 = Q57_6 at h ⊢
  unfold kj57_2
  generalize @J57_2 = Q57_2 at h ⊢
  refine code2_sound ok_mono _ _ _ ?_
  refine kmp ?_ h
  generalize Ok Try.prog = C
  unfold en57
  as_aux_lemma => kernel_rfl

noncomputable def J57_5 (x0 x1 x5 x6 : LV) (g : LHeap) (N4 : LV × LV → LHeap → Prop) (K : LV → LHeap → Prop) : Prop :=
  vK (nilCheckL x0) fun t19 =>
  vK (fieldAddrL 2 t19) fun t20 =>
  vK (loadV none t20 g) fun t21 =>
  vK (ixAddrL none 3 t21 x6) fun t23 =>
  vK (fieldAddrL 2 t23) fun t24 =>
  vK (loadV none t24 g) fun t25 =>
  Ok Try.prog 80 [t25, x1] g fun t27 g =>
  vK (unL .not t27) fun t28 =>
  ifB t28 (
  J57_6 x0 x1 x5 x6 g N4 K) (
  J57_7 x0 x1 x5 x6 g N4 K)
abbrev kj57_5 (R4 : LV × LV → LV × LV → LHeap → Prop) (K : LV → LHeap → Prop) : LSt → Prop := fun st => J57_5 (st.tm 0) (st.tm 1) (st.tm 5) (st.tm 6) st.g (fun s g => R4 ((st.tm 0), (st.tm 1)) s g) K
theorem J57_5_ok (R4 : LV × LV → LV × LV → LHeap → Prop) (K : LV → LHeap → Prop) (tm : Nat → LV) (g : LHeap) (h : J57_5 (tm 0) (tm 1) (tm 5) (tm 6) g (fun s g => R4 ((tm 0), (tm 1)) s g) K) : codeL Try.prog (Ok Try.prog) (nd57 [1, 1, 0, 1, 0, 0, 1]) ⟨tm, g⟩ (roundK (fun tm : Nat → LV => (tm 0, tm 1)) (fun tm : Nat → LV => (tm 5, tm 6)) R4 (exitL 0 (thenL (kj57_2  K) (en57 K)))) := by
  refine seq_i (a := nd57 [1, 1, 0, 1, 0, 0, 1, 0]) (b := nd57 [1, 1, 0, 1, 0, 0, 1, 1]) (k' := kj57_6 R4 K) (by kernel_rfl) (fun st h => J57_6_ok R4 K st.tm st.g h) ?_
  refine block_i (b := nd57 [1, 1, 0, 1, 0, 0, 1, 0, 0]) (i := 1) (by kernel_rfl) ?_
  refine seq_i (a := nd57 [1, 1, 0, 1, 0, 0, 1, 0, 0, 0]) (b := nd57 [1, 1, 0, 1, 0, 0, 1, 0, 0, 1]) (k' := kj57_7 R4 K) (by kernel_rfl) (fun st h => J57_7_ok R4 K st.tm st.g h) ?_
  try unfold J57_5 at h
  unfold kj57_7
  generalize @J57_7 = Q57_7 at h ⊢
  unfold kj57_6
  generalize @J57_6 = Q57_6 at h ⊢
  unfold kj57_2
  generalize @J57_2 = Q57_2 at h ⊢
  refine code2_sound ok_mono _ _ _ ?_
  refine kmp ?_ h
  generalize Ok Try.prog = C
  unfold en57
  as_aux_lemma => kernel_rfl

noncomputable def L57_4 (x0 x1 : LV) (x5 x6 : LV) (g : LHeap) (N4 : LV × LV → LHeap → Prop) (K : LV → LHeap → Prop) : Prop :=
  vK (nilCheckL x0) fun t11 =>
  vK (fieldAddrL 2 t11) fun t12 =>
  vK (loadV none t12 g) fun t13 =>
  oK (builtinL Try.prog .len [112] [t13] g) fun t14 g =>
  vK (binL Try.prog .lss 3 false x6 t14) fun t15 =>
  ifB t15 (
  J57_5 x0 x1 x5 x6 g N4 K) (
  J57_2 x5 g  K)
theorem L57_4_ok (R4 : LV × LV → LV × LV → LHeap → Prop) (K : LV → LHeap → Prop) (tm : Nat → LV) (g : LHeap) (h : L57_4 (tm 0) (tm 1) (tm 5) (tm 6) g (fun s g => R4 ((tm 0), (tm 1)) s g) K) : codeL Try.prog (Ok Try.prog) (nd57 [1, 1, 0, 1, 0, 0]) ⟨tm, g⟩ (roundK (fun tm : Nat → LV => (tm 0, tm 1)) (fun tm : Nat → LV => (tm 5, tm 6)) R4 (exitL 0 (thenL (kj57_2  K) (en57 K)))) := by
  refine seq_i (a := nd57 [1, 1, 0, 1, 0, 0, 0]) (b := nd57 [1, 1, 0, 1, 0, 0, 1]) (k' := kj57_5 R4 K) (by kernel_rfl) (fun st h => J57_5_ok R4 K st.tm st.g h) ?_
  try unfold L57_4 at h
  unfold kj57_5
  generalize @J57_5 = Q57_5 at h ⊢
  unfold kj57_2
  generalize @J57_2 = Q57_2 at h ⊢
  refine code2_sound ok_mono _ _ _ ?_
  refine kmp ?_ h
  generalize Ok Try.prog = C
  unfold en57
  as_aux_lemma => kernel_rfl

noncomputable def J57_3 (x0 x1 x5 x6 : LV) (g : LHeap)  (K : LV → LHeap → Prop) : Prop :=
  loopP (fun s g N => L57_4 x0 x1 s.1 s.2 g N  K) (x5, x6) g
abbrev kj57_3  (K : LV → LHeap → Prop) : LSt → Prop := fun st => J57_3 (st.tm 0) (st.tm 1) (st.tm 5) (st.tm 6) st.g  K
theorem J57_3_ok  (K : LV → LHeap → Prop) (tm : Nat → LV) (g : LHeap) (h : J57_3 (tm 0) (tm 1) (tm 5) (tm 6) g  K) : codeL Try.prog (Ok Try.prog) (nd57 [1, 1, 0, 1]) ⟨tm, g⟩ (thenL (kj57_2  K) (en57 K)) := by
  refine block_i (b := nd57 [1, 1, 0, 1, 0]) (i := 0) (by kernel_rfl) ?_
  exact loop_glue (b := nd57 [1, 1, 0, 1, 0, 0]) (by kernel_rfl) (fun tm : Nat → LV => (tm 0, tm 1)) (fun tm : Nat → LV => (tm 5, tm 6)) (fun a s g N => L57_4 a.1 a.2 s.1 s.2 g N  K) (fun tm g R h => L57_4_ok R  K tm g h) tm g h

noncomputable def J57_1 (x0 x1 x5 : LV) (g : LHeap)  (K : LV → LHeap → Prop) : Prop :=
  J57_3 x0 x1 x5 (.int .i64 (0)) g  K
abbrev kj57_1  (K : LV → LHeap → Prop) : LSt → Prop := fun st => J57_1 (st.tm 0) (st.tm 1) (st.tm 5) st.g  K
theorem J57_1_ok  (K : LV → LHeap → Prop) (tm : Nat → LV) (g : LHeap) (h : J57_1 (tm 0) (tm 1) (tm 5) g  K) : codeL Try.prog (Ok Try.prog) (nd57 [1, 1]) ⟨tm, g⟩ (en57 K) := by
  refine seq_i (a := nd57 [1, 1, 0]) (b := nd57 [1, 1, 1]) (k' := kj57_2  K) (by kernel_rfl) (fun st h => J57_2_ok  K st.tm st.g h) ?_
  refine seq_i (a := nd57 [1, 1, 0, 0]) (b := nd57 [1, 1, 0, 1]) (k' := kj57_3  K) (by kernel_rfl) (fun st h => J57_3_ok  K st.tm st.g h) ?_
  try unfold J57_1 at h
  unfold kj57_3
  generalize @J57_3 = Q57_3 at h ⊢
  unfold kj57_2
  generalize @J57_2 = Q57_2 at h ⊢
  refine code2_sound ok_mono _ _ _ ?_
  refine kmp ?_ h
  generalize Ok Try.prog = C
  unfold en57
  as_aux_lemma => kernel_rfl

noncomputable def J57_0 (x0 x1 : LV) (g : LHeap)  (K : LV → LHeap → Prop) : Prop :=
  J57_1 x0 x1 (.int .i64 (0)) g  K
abbrev kj57_0  (K : LV → LHeap → Prop) : LSt → Prop := fun st => J57_0 (st.tm 0) (st.tm 1) st.g  K
theorem J57_0_ok  (K : LV → LHeap → Prop) (tm : Nat → LV) (g : LHeap) (h : J57_0 (tm 0) (tm 1) g  K) : codeL Try.prog (Ok Try.prog) (nd57 [1]) ⟨tm, g⟩ (en57 K) := by
  refine seq_i (a := nd57 [1, 0]) (b := nd57 [1, 1]) (k' := kj57_1  K) (by kernel_rfl) (fun st h => J57_1_ok  K st.tm st.g h) ?_
  try unfold J57_0 at h
  unfold kj57_1
  generalize @J57_1 = Q57_1 at h ⊢
  refine code2_sound ok_mono _ _ _ ?_
  refine kmp ?_ h
  generalize Ok Try.prog = C
  unfold en57
  as_aux_lemma => kernel_rfl

noncomputable def F57 (x0 x1 : LV) (g : LHeap) (K : LV → LHeap → Prop) : Prop :=
  J57_0 x0 x1 g  K
theorem ok57 {x0 x1 : LV} {g : LHeap} {K : LV → LHeap → Prop} (h : g.Wf → (∀ v ∈ ([x0, x1] : List LV), ∀ b ∈ v.objs, b < g.next) → F57 x0 x1 g K) : Ok Try.prog 57 [x0, x1] g K := by
  refine ok_fw Try.mixed Try.func57 (by kernel_rfl) (by kernel_rfl) (c := nd57 []) (by kernel_rfl) fun wf lt => ?_
  rw [← en57_eq]
  replace h := h wf lt
  generalize hs : startL _ = tm
  replace h : F57 (tm 0) (tm 1) g K := by rw [← hs]; exact h
  refine seq_i (a := nd57 [0]) (b := nd57 [1]) (k' := kj57_0  K) (by kernel_rfl) (fun st h => J57_0_ok  K st.tm st.g h) ?_
  try unfold F57 at h
  unfold kj57_0
  generalize @J57_0 = Q57_0 at h ⊢
  refine code2_sound ok_mono _ _ _ ?_
  refine kmp ?_ h
  generalize Ok Try.prog = C
  unfold en57
  as_aux_lemma => kernel_rfl

/-! (*parapet/parapetref07.Tlb).Over (29 slots) -/
noncomputable def en58 (K : LV → LHeap → Prop) : LEx → LSt → Prop := fun e st => match e with
  | .exit _ => False
  | _ => K (st.tm 4) st.g
theorem en58_eq (K : LV → LHeap → Prop) : en58 K = endL Try.prog Try.f58 K := by
  funext e st
  cases e <;> kernel_rfl
noncomputable def nd58 (p : List Nat) : Code := subC p (bodyC Try.prog 58)
noncomputable def F58 (x0 x1 : LV) (g : LHeap) (K : LV → LHeap → Prop) : Prop :=
  vK (binL Try.prog .geq 3 true x1 (.int .i64 (1))) fun t6 =>
  gd t6 true g (fun K => K x1 g) fun t8 g =>
  gd t6 true g (fun K => K x0 g) fun t9 g =>
  gd t6 true g (fun K => vK (nilCheckL t9) fun v => K v g) fun t10 g =>
  gd t6 true g (fun K => vK (fieldAddrL 2 t10) fun v => K v g) fun t11 g =>
  gd t6 true g (fun K => vK (loadV none t11 g) fun v => K v g) fun t12 g =>
  gd t6 true g (fun K => oK (builtinL Try.prog .len [112] [t12] g) K) fun t13 g =>
  gd t6 true g (fun K => vK (binL Try.prog .leq 3 false t8 t13) fun v => K v g) fun t14 g =>
  vK (pickL t6 t14 (.bool false)) fun t15 =>
  gd t15 true g (fun K => K x0 g) fun t17 g =>
  gd t15 true g (fun K => vK (nilCheckL t17) fun v => K v g) fun t18 g =>
  gd t15 true g (fun K => vK (fieldAddrL 2 t18) fun v => K v g) fun t19 g =>
  gd t15 true g (fun K => vK (loadV none t19 g) fun v => K v g) fun t20 g =>
  gd t15 true g (fun K => K x1 g) fun t21 g =>
  gd t15 true g (fun K => vK (binL Try.prog .sub 3 true t21 (.int .i64 (1))) fun v => K v g) fun t22 g =>
  gd t15 true g (fun K => vK (ixAddrL none 3 t20 t22) fun v => K v g) fun t23 g =>
  gd t15 true g (fun K => vK (fieldAddrL 2 t23) fun v => K v g) fun t24 g =>
  gd t15 true g (fun K => vK (loadV none t24 g) fun v => K v g) fun t25 g =>
  gd t15 true g (fun K => oK (builtinL Try.prog .len [24] [t25] g) K) fun t26 g =>
  gd t15 true g (fun K => vK (binL Try.prog .eql 3 true t26 (.int .i64 (0))) fun v => K v g) fun t27 g =>
  vK (pickL t15 t27 (.bool false)) fun t28 =>
  K t28 g
theorem ok58 {x0 x1 : LV} {g : LHeap} {K : LV → LHeap → Prop} (h : g.Wf → (∀ v ∈ ([x0, x1] : List LV), ∀ b ∈ v.objs, b < g.next) → F58 x0 x1 g K) : Ok Try.prog 58 [x0, x1] g K := by
  refine ok_fw Try.mixed Try.func58 (by kernel_rfl) (by kernel_rfl) (c := nd58 []) (by kernel_rfl) fun wf lt => ?_
  rw [← en58_eq]
  replace h := h wf lt
  generalize hs : startL _ = tm
  replace h : F58 (tm 0) (tm 1) g K := by rw [← hs]; exact h
  try unfold F58 at h
  refine code2_sound ok_mono _ _ _ ?_
  refine kmp ?_ h
  generalize Ok Try.prog = C
  unfold en58
  as_aux_lemma => kernel_rfl

/-! (*parapet/parapetref07.Tlb).Open (27 slots) -/
noncomputable def en59 (K : LV → LHeap → Prop) : LEx → LSt → Prop := fun e st => match e with
  | .exit _ => False
  | _ => K (st.tm 2) st.g
theorem en59_eq (K : LV → LHeap → Prop) : en59 K = endL Try.prog Try.f59 K := by
  funext e st
  cases e <;> kernel_rfl
noncomputable def nd59 (p : List Nat) : Code := subC p (bodyC Try.prog 59)
noncomputable def J59_2 (x3 : LV) (g : LHeap)  (K : LV → LHeap → Prop) : Prop :=
  K x3 g
abbrev kj59_2  (K : LV → LHeap → Prop) : LSt → Prop := fun st => J59_2 (st.tm 3) st.g  K
theorem J59_2_ok  (K : LV → LHeap → Prop) (tm : Nat → LV) (g : LHeap) (h : J59_2 (tm 3) g  K) : codeL Try.prog (Ok Try.prog) (nd59 [1, 1, 1]) ⟨tm, g⟩ (en59 K) := by
  try unfold J59_2 at h
  refine code2_sound ok_mono _ _ _ ?_
  refine kmp ?_ h
  generalize Ok Try.prog = C
  unfold en59
  as_aux_lemma => kernel_rfl

noncomputable def L59_4 (x0 : LV) (x3 x4 : LV) (g : LHeap) (N4 : LV × LV → LHeap → Prop) (K : LV → LHeap → Prop) : Prop :=
  vK (nilCheckL x0) fun t7 =>
  vK (fieldAddrL 2 t7) fun t8 =>
  vK (loadV none t8 g) fun t9 =>
  oK (builtinL Try.prog .len [112] [t9] g) fun t10 g =>
  vK (binL Try.prog .lss 3 false x4 t10) fun t11 =>
  ifB t11 (
  vK (nilCheckL x0) fun t15 =>
  vK (fieldAddrL 2 t15) fun t16 =>
  vK (loadV none t16 g) fun t17 =>
  vK (ixAddrL none 3 t17 x4) fun t19 =>
  vK (fieldAddrL 2 t19) fun t20 =>
  vK (loadV none t20 g) fun t21 =>
  oK (builtinL Try.prog .len [24] [t21] g) fun t22 g =>
  vK (binL Try.prog .gtr 3 true t22 (.int .i64 (0))) fun t23 =>
  ifB t23 (
  vK (binL Try.prog .add 3 true x3 (.int .i64 (1))) fun t25 =>
  vK (binL Try.prog .add 3 true x4 (.int .i64 (1))) fun t13 =>
  N4 (t25, t13) g) (
  vK (binL Try.prog .add 3 true x4 (.int .i64 (1))) fun t13 =>
  N4 (x3, t13) g)) (
  J59_2 x3 g  K)
theorem L59_4_ok (R4 : LV → LV × LV → LHeap → Prop) (K : LV → LHeap → Prop) (tm : Nat → LV) (g : LHeap) (h : L59_4 (tm 0) (tm 3) (tm 4) g (fun s g => R4 (tm 0) s g) K) : codeL Try.prog (Ok Try.prog) (nd59 [1, 1, 0, 1, 0, 0]) ⟨tm, g⟩ (roundK (fun tm : Nat → LV => tm 0) (fun tm : Nat → LV => (tm 3, tm 4)) R4 (exitL 0 (thenL (kj59_2  K) (en59 K)))) := by
  try unfold L59_4 at h
  unfold kj59_2
  generalize @J59_2 = Q59_2 at h ⊢
  refine code2_sound ok_mono _ _ _ ?_
  refine kmp ?_ h
  generalize Ok Try.prog = C
  unfold en59
  as_aux_lemma => kernel_rfl

noncomputable def J59_3 (x0 x3 x4 : LV) (g : LHeap)  (K : LV → LHeap → Prop) : Prop :=
  loopP (fun s g N => L59_4 x0 s.1 s.2 g N  K) (x3, x4) g
abbrev kj59_3  (K : LV → LHeap → Prop) : LSt → Prop := fun st => J59_3 (st.tm 0) (st.tm 3) (st.tm 4) st.g  K
theorem J59_3_ok  (K : LV → LHeap → Prop) (tm : Nat → LV) (g : LHeap) (h : J59_3 (tm 0) (tm 3) (tm 4) g  K) : codeL Try.prog (Ok Try.prog) (nd59 [1, 1, 0, 1]) ⟨tm, g⟩ (thenL (kj59_2  K) (en59 K)) := by
  refine block_i (b := nd59 [1, 1, 0, 1, 0]) (i := 0) (by kernel_rfl) ?_
  exact loop_glue (b := nd59 [1, 1, 0, 1, 0, 0]) (by kernel_rfl) (fun tm : Nat → LV => tm 0) (fun tm : Nat → LV => (tm 3, tm 4)) (fun a s g N => L59_4 a s.1 s.2 g N  K) (fun tm g R h => L59_4_ok R  K tm g h) tm g h

noncomputable def J59_1 (x0 x3 : LV) (g : LHeap)  (K : LV → LHeap → Prop) : Prop :=
  J59_3 x0 x3 (.int .i64 (0)) g  K
abbrev kj59_1  (K : LV → LHeap → Prop) : LSt → Prop := fun st => J59_1 (st.tm 0) (st.tm 3) st.g  K
theorem J59_1_ok  (K : LV → LHeap → Prop) (tm : Nat → LV) (g : LHeap) (h : J59_1 (tm 0) (tm 3) g  K) : codeL Try.prog (Ok Try.prog) (nd59 [1, 1]) ⟨tm, g⟩ (en59 K) := by
  refine seq_i (a := nd59 [1, 1, 0]) (b := nd59 [1, 1, 1]) (k' := kj59_2  K) (by kernel_rfl) (fun st h => J59_2_ok  K st.tm st.g h) ?_
  refine seq_i (a := nd59 [1, 1, 0, 0]) (b := nd59 [1, 1, 0, 1]) (k' := kj59_3  K) (by kernel_rfl) (fun st h => J59_3_ok  K st.tm st.g h) ?_
  try unfold J59_1 at h
  unfold kj59_3
  generalize @J59_3 = Q59_3 at h ⊢
  unfold kj59_2
  generalize @J59_2 = Q59_2 at h ⊢
  refine code2_sound ok_mono _ _ _ ?_
  refine kmp ?_ h
  generalize Ok Try.prog = C
  unfold en59
  as_aux_lemma => kernel_rfl

noncomputable def J59_0 (x0 : LV) (g : LHeap)  (K : LV → LHeap → Prop) : Prop :=
  J59_1 x0 (.int .i64 (0)) g  K
abbrev kj59_0  (K : LV → LHeap → Prop) : LSt → Prop := fun st => J59_0 (st.tm 0) st.g  K
theorem J59_0_ok  (K : LV → LHeap → Prop) (tm : Nat → LV) (g : LHeap) (h : J59_0 (tm 0) g  K) : codeL Try.prog (Ok Try.prog) (nd59 [1]) ⟨tm, g⟩ (en59 K) := by
  refine seq_i (a := nd59 [1, 0]) (b := nd59 [1, 1]) (k' := kj59_1  K) (by kernel_rfl) (fun st h => J59_1_ok  K st.tm st.g h) ?_
  try unfold J59_0 at h
  unfold kj59_1
  generalize @J59_1 = Q59_1 at h ⊢
  refine code2_sound ok_mono _ _ _ ?_
  refine kmp ?_ h
  generalize Ok Try.prog = C
  unfold en59
  as_aux_lemma => kernel_rfl

noncomputable def F59 (x0 : LV) (g : LHeap) (K : LV → LHeap → Prop) : Prop :=
  J59_0 x0 g  K
theorem ok59 {x0 : LV} {g : LHeap} {K : LV → LHeap → Prop} (h : g.Wf → (∀ v ∈ ([x0] : List LV), ∀ b ∈ v.objs, b < g.next) → F59 x0 g K) : Ok Try.prog 59 [x0] g K := by
  refine ok_fw Try.mixed Try.func59 (by kernel_rfl) (by kernel_rfl) (c := nd59 []) (by kernel_rfl) fun wf lt => ?_
  rw [← en59_eq]
  replace h := h wf lt
  generalize hs : startL _ = tm
  replace h : F59 (tm 0) g K := by rw [← hs]; exact h
  refine seq_i (a := nd59 [0]) (b := nd59 [1]) (k' := kj59_0  K) (by kernel_rfl) (fun st h => J59_0_ok  K st.tm st.g h) ?_
  try unfold F59 at h
  unfold kj59_0
  generalize @J59_0 = Q59_0 at h ⊢
  refine code2_sound ok_mono _ _ _ ?_
  refine kmp ?_ h
  generalize Ok Try.prog = C
  unfold en59
  as_aux_lemma => kernel_rfl

/-! (*parapet/parapetref07.Tlb).Pending (38 slots) -/
noncomputable def en60 (K : LV → LHeap → Prop) : LEx → LSt → Prop := fun e st => match e with
  | .exit _ => False
  | _ => K (st.tm 4) st.g
theorem en60_eq (K : LV → LHeap → Prop) : en60 K = endL Try.prog Try.f60 K := by
  funext e st
  cases e <;> kernel_rfl
noncomputable def nd60 (p : List Nat) : Code := subC p (bodyC Try.prog 60)
noncomputable def J60_2 (x5 : LV) (g : LHeap)  (K : LV → LHeap → Prop) : Prop :=
  K x5 g
abbrev kj60_2  (K : LV → LHeap → Prop) : LSt → Prop := fun st => J60_2 (st.tm 5) st.g  K
theorem J60_2_ok  (K : LV → LHeap → Prop) (tm : Nat → LV) (g : LHeap) (h : J60_2 (tm 5) g  K) : codeL Try.prog (Ok Try.prog) (nd60 [1, 1, 1]) ⟨tm, g⟩ (en60 K) := by
  try unfold J60_2 at h
  refine code2_sound ok_mono _ _ _ ?_
  refine kmp ?_ h
  generalize Ok Try.prog = C
  unfold en60
  as_aux_lemma => kernel_rfl

noncomputable def L60_4 (x0 x1 : LV) (x5 x6 : LV) (g : LHeap) (N4 : LV × LV → LHeap → Prop) (K : LV → LHeap → Prop) : Prop :=
  vK (nilCheckL x0) fun t9 =>
  vK (fieldAddrL 2 t9) fun t10 =>
  vK (loadV none t10 g) fun t11 =>
  oK (builtinL Try.prog .len [112] [t11] g) fun t12 g =>
  vK (binL Try.prog .lss 3 false x6 t12) fun t13 =>
  ifB t13 (
  vK (nilCheckL x0) fun t17 =>
  vK (fieldAddrL 2 t17) fun t18 =>
  vK (loadV none t18 g) fun t19 =>
  vK (ixAddrL none 3 t19 x6) fun t21 =>
  vK (fieldAddrL 2 t21) fun t22 =>
  vK (loadV none t22 g) fun t23 =>
  Ok Try.prog 80 [t23, x1] g fun t25 g =>
  ifB t25 (
  vK (nilCheckL x0) fun t28 =>
  vK (fieldAddrL 2 t28) fun t29 =>
  vK (loadV none t29 g) fun t30 =>
  vK (ixAddrL none 3 t30 x6) fun t32 =>
  vK (fieldAddrL 0 t32) fun t33 =>
  vK (loadV none t33 g) fun t34 =>
  oK (buildSliceL Try.prog 24 1 [(0, t34)] g) fun t35 g =>
  oK (builtinL Try.prog .append [24, 24] [x5, t35] g) fun t36 g =>
  vK (binL Try.prog .add 3 true x6 (.int .i64 (1))) fun t15 =>
  N4 (t36, t15) g) (
  vK (binL Try.prog .add 3 true x6 (.int .i64 (1))) fun t15 =>
  N4 (x5, t15) g)) (
  J60_2 x5 g  K)
theorem L60_4_ok (R4 : LV × LV → LV × LV → LHeap → Prop) (K : LV → LHeap → Prop) (tm : Nat → LV) (g : LHeap) (h : L60_4 (tm 0) (tm 1) (tm 5) (tm 6) g (fun s g => R4 ((tm 0), (tm 1)) s g) K) : codeL Try.prog (Ok Try.prog) (nd60 [1, 1, 0, 1, 0, 0]) ⟨tm, g⟩ (roundK (fun tm : Nat → LV => (tm 0, tm 1)) (fun tm : Nat → LV => (tm 5, tm 6)) R4 (exitL 0 (thenL (kj60_2  K) (en60 K)))) := by
  try unfold L60_4 at h
  unfold kj60_2
  generalize @J60_2 = Q60_2 at h ⊢
  refine code2_sound ok_mono _ _ _ ?_
  refine kmp ?_ h
  generalize Ok Try.prog = C
  unfold en60
  as_aux_lemma => kernel_rfl

noncomputable def J60_3 (x0 x1 x5 x6 : LV) (g : LHeap)  (K : LV → LHeap → Prop) : Prop :=
  loopP (fun s g N => L60_4 x0 x1 s.1 s.2 g N  K) (x5, x6) g
abbrev kj60_3  (K : LV → LHeap → Prop) : LSt → Prop := fun st => J60_3 (st.tm 0) (st.tm 1) (st.tm 5) (st.tm 6) st.g  K
theorem J60_3_ok  (K : LV → LHeap → Prop) (tm : Nat → LV) (g : LHeap) (h : J60_3 (tm 0) (tm 1) (tm 5) (tm 6) g  K) : codeL Try.prog (Ok Try.prog) (nd60 [1, 1, 0, 1]) ⟨tm, g⟩ (thenL (kj60_2  K) (en60 K)) := by
  refine block_i (b := nd60 [1, 1, 0, 1, 0]) (i := 0) (by kernel_rfl) ?_
  exact loop_glue (b := nd60 [1, 1, 0, 1, 0, 0]) (by kernel_rfl) (fun tm : Nat → LV => (tm 0, tm 1)) (fun tm : Nat → LV => (tm 5, tm 6)) (fun a s g N => L60_4 a.1 a.2 s.1 s.2 g N  K) (fun tm g R h => L60_4_ok R  K tm g h) tm g h

noncomputable def J60_1 (x0 x1 x5 : LV) (g : LHeap)  (K : LV → LHeap → Prop) : Prop :=
  J60_3 x0 x1 x5 (.int .i64 (0)) g  K
abbrev kj60_1  (K : LV → LHeap → Prop) : LSt → Prop := fun st => J60_1 (st.tm 0) (st.tm 1) (st.tm 5) st.g  K
theorem J60_1_ok  (K : LV → LHeap → Prop) (tm : Nat → LV) (g : LHeap) (h : J60_1 (tm 0) (tm 1) (tm 5) g  K) : codeL Try.prog (Ok Try.prog) (nd60 [1, 1]) ⟨tm, g⟩ (en60 K) := by
  refine seq_i (a := nd60 [1, 1, 0]) (b := nd60 [1, 1, 1]) (k' := kj60_2  K) (by kernel_rfl) (fun st h => J60_2_ok  K st.tm st.g h) ?_
  refine seq_i (a := nd60 [1, 1, 0, 0]) (b := nd60 [1, 1, 0, 1]) (k' := kj60_3  K) (by kernel_rfl) (fun st h => J60_3_ok  K st.tm st.g h) ?_
  try unfold J60_1 at h
  unfold kj60_3
  generalize @J60_3 = Q60_3 at h ⊢
  unfold kj60_2
  generalize @J60_2 = Q60_2 at h ⊢
  refine code2_sound ok_mono _ _ _ ?_
  refine kmp ?_ h
  generalize Ok Try.prog = C
  unfold en60
  as_aux_lemma => kernel_rfl

noncomputable def J60_0 (x0 x1 : LV) (g : LHeap)  (K : LV → LHeap → Prop) : Prop :=
  J60_1 x0 x1 .nils g  K
abbrev kj60_0  (K : LV → LHeap → Prop) : LSt → Prop := fun st => J60_0 (st.tm 0) (st.tm 1) st.g  K
theorem J60_0_ok  (K : LV → LHeap → Prop) (tm : Nat → LV) (g : LHeap) (h : J60_0 (tm 0) (tm 1) g  K) : codeL Try.prog (Ok Try.prog) (nd60 [1]) ⟨tm, g⟩ (en60 K) := by
  refine seq_i (a := nd60 [1, 0]) (b := nd60 [1, 1]) (k' := kj60_1  K) (by kernel_rfl) (fun st h => J60_1_ok  K st.tm st.g h) ?_
  try unfold J60_0 at h
  unfold kj60_1
  generalize @J60_1 = Q60_1 at h ⊢
  refine code2_sound ok_mono _ _ _ ?_
  refine kmp ?_ h
  generalize Ok Try.prog = C
  unfold en60
  as_aux_lemma => kernel_rfl

noncomputable def F60 (x0 x1 : LV) (g : LHeap) (K : LV → LHeap → Prop) : Prop :=
  J60_0 x0 x1 g  K
theorem ok60 {x0 x1 : LV} {g : LHeap} {K : LV → LHeap → Prop} (h : g.Wf → (∀ v ∈ ([x0, x1] : List LV), ∀ b ∈ v.objs, b < g.next) → F60 x0 x1 g K) : Ok Try.prog 60 [x0, x1] g K := by
  refine ok_fw Try.mixed Try.func60 (by kernel_rfl) (by kernel_rfl) (c := nd60 []) (by kernel_rfl) fun wf lt => ?_
  rw [← en60_eq]
  replace h := h wf lt
  generalize hs : startL _ = tm
  replace h : F60 (tm 0) (tm 1) g K := by rw [← hs]; exact h
  refine seq_i (a := nd60 [0]) (b := nd60 [1]) (k' := kj60_0  K) (by kernel_rfl) (fun st h => J60_0_ok  K st.tm st.g h) ?_
  try unfold F60 at h
  unfold kj60_0
  generalize @J60_0 = Q60_0 at h ⊢
  refine code2_sound ok_mono _ _ _ ?_
  refine kmp ?_ h
  generalize Ok Try.prog = C
  unfold en60
  as_aux_lemma => kernel_rfl

/-! (*parapet/parapetref07.Tlb).hart (16 slots) -/
noncomputable def en79 (K : LV → LHeap → Prop) : LEx → LSt → Prop := fun e st => match e with
  | .exit _ => False
  | _ => K (st.tm 4) st.g
theorem en79_eq (K : LV → LHeap → Prop) : en79 K = endL Try.prog Try.f79 K := by
  funext e st
  cases e <;> kernel_rfl
noncomputable def nd79 (p : List Nat) : Code := subC p (bodyC Try.prog 79)
noncomputable def F79 (x0 x1 : LV) (g : LHeap) (K : LV → LHeap → Prop) : Prop :=
  vK (binL Try.prog .geq 3 true x1 (.int .i64 (0))) fun t6 =>
  gd t6 true g (fun K => K x1 g) fun t8 g =>
  gd t6 true g (fun K => K x0 g) fun t9 g =>
  gd t6 true g (fun K => vK (nilCheckL t9) fun v => K v g) fun t10 g =>
  gd t6 true g (fun K => vK (fieldAddrL 1 t10) fun v => K v g) fun t11 g =>
  gd t6 true g (fun K => vK (loadV none t11 g) fun v => K v g) fun t12 g =>
  gd t6 true g (fun K => oK (builtinL Try.prog .len [111] [t12] g) K) fun t13 g =>
  gd t6 true g (fun K => vK (binL Try.prog .lss 3 false t8 t13) fun v => K v g) fun t14 g =>
  vK (pickL t6 t14 (.bool false)) fun t15 =>
  K t15 g
theorem ok79 {x0 x1 : LV} {g : LHeap} {K : LV → LHeap → Prop} (h : g.Wf → (∀ v ∈ ([x0, x1] : List LV), ∀ b ∈ v.objs, b < g.next) → F79 x0 x1 g K) : Ok Try.prog 79 [x0, x1] g K := by
  refine ok_fw Try.mixed Try.func79 (by kernel_rfl) (by kernel_rfl) (c := nd79 []) (by kernel_rfl) fun wf lt => ?_
  rw [← en79_eq]
  replace h := h wf lt
  generalize hs : startL _ = tm
  replace h : F79 (tm 0) (tm 1) g K := by rw [← hs]; exact h
  try unfold F79 at h
  refine code2_sound ok_mono _ _ _ ?_
  refine kmp ?_ h
  generalize Ok Try.prog = C
  unfold en79
  as_aux_lemma => kernel_rfl

/-! parapet/parapetref07.has (18 slots) -/
noncomputable def en80 (K : LV → LHeap → Prop) : LEx → LSt → Prop := fun e st => match e with
  | .exit _ => False
  | _ => K (st.tm 4) st.g
theorem en80_eq (K : LV → LHeap → Prop) : en80 K = endL Try.prog Try.f80 K := by
  funext e st
  cases e <;> kernel_rfl
noncomputable def nd80 (p : List Nat) : Code := subC p (bodyC Try.prog 80)
noncomputable def J80_1 (g : LHeap)  (K : LV → LHeap → Prop) : Prop :=
  K (.bool false) g
abbrev kj80_1  (K : LV → LHeap → Prop) : LSt → Prop := fun st => J80_1  st.g  K
theorem J80_1_ok  (K : LV → LHeap → Prop) (tm : Nat → LV) (g : LHeap) (h : J80_1  g  K) : codeL Try.prog (Ok Try.prog) (nd80 [1, 1]) ⟨tm, g⟩ (en80 K) := by
  try unfold J80_1 at h
  refine code2_sound ok_mono _ _ _ ?_
  refine kmp ?_ h
  generalize Ok Try.prog = C
  unfold en80
  as_aux_lemma => kernel_rfl

noncomputable def L80_3 (x0 x1 : LV) (x5 : LV) (g : LHeap) (N3 : LV → LHeap → Prop) (K : LV → LHeap → Prop) : Prop :=
  oK (builtinL Try.prog .len [24] [x0] g) fun t8 g =>
  vK (binL Try.prog .lss 3 false x5 t8) fun t9 =>
  ifB t9 (
  vK (ixAddrL none 1 x0 x5) fun t14 =>
  vK (loadV none t14 g) fun t15 =>
  vK (binL Try.prog .eql 3 false t15 x1) fun t17 =>
  ifB t17 (
  K (.bool true) g) (
  vK (binL Try.prog .add 3 true x5 (.int .i64 (1))) fun t11 =>
  N3 t11 g)) (
  J80_1  g  K)
theorem L80_3_ok (R3 : LV × LV → LV → LHeap → Prop) (K : LV → LHeap → Prop) (tm : Nat → LV) (g : LHeap) (h : L80_3 (tm 0) (tm 1) (tm 5) g (fun s g => R3 ((tm 0), (tm 1)) s g) K) : codeL Try.prog (Ok Try.prog) (nd80 [1, 0, 1, 0, 0]) ⟨tm, g⟩ (roundK (fun tm : Nat → LV => (tm 0, tm 1)) (fun tm : Nat → LV => tm 5) R3 (exitL 0 (thenL (kj80_1  K) (en80 K)))) := by
  try unfold L80_3 at h
  unfold kj80_1
  generalize @J80_1 = Q80_1 at h ⊢
  refine code2_sound ok_mono _ _ _ ?_
  refine kmp ?_ h
  generalize Ok Try.prog = C
  unfold en80
  as_aux_lemma => kernel_rfl

noncomputable def J80_2 (x0 x1 x5 : LV) (g : LHeap)  (K : LV → LHeap → Prop) : Prop :=
  loopP (fun s g N => L80_3 x0 x1 s g N  K) x5 g
abbrev kj80_2  (K : LV → LHeap → Prop) : LSt → Prop := fun st => J80_2 (st.tm 0) (st.tm 1) (st.tm 5) st.g  K
theorem J80_2_ok  (K : LV → LHeap → Prop) (tm : Nat → LV) (g : LHeap) (h : J80_2 (tm 0) (tm 1) (tm 5) g  K) : codeL Try.prog (Ok Try.prog) (nd80 [1, 0, 1]) ⟨tm, g⟩ (thenL (kj80_1  K) (en80 K)) := by
  refine block_i (b := nd80 [1, 0, 1, 0]) (i := 0) (by kernel_rfl) ?_
  exact loop_glue (b := nd80 [1, 0, 1, 0, 0]) (by kernel_rfl) (fun tm : Nat → LV => (tm 0, tm 1)) (fun tm : Nat → LV => tm 5) (fun a s g N => L80_3 a.1 a.2 s g N  K) (fun tm g R h => L80_3_ok R  K tm g h) tm g h

noncomputable def J80_0 (x0 x1 : LV) (g : LHeap)  (K : LV → LHeap → Prop) : Prop :=
  J80_2 x0 x1 (.int .i64 (0)) g  K
abbrev kj80_0  (K : LV → LHeap → Prop) : LSt → Prop := fun st => J80_0 (st.tm 0) (st.tm 1) st.g  K
theorem J80_0_ok  (K : LV → LHeap → Prop) (tm : Nat → LV) (g : LHeap) (h : J80_0 (tm 0) (tm 1) g  K) : codeL Try.prog (Ok Try.prog) (nd80 [1]) ⟨tm, g⟩ (en80 K) := by
  refine seq_i (a := nd80 [1, 0]) (b := nd80 [1, 1]) (k' := kj80_1  K) (by kernel_rfl) (fun st h => J80_1_ok  K st.tm st.g h) ?_
  refine seq_i (a := nd80 [1, 0, 0]) (b := nd80 [1, 0, 1]) (k' := kj80_2  K) (by kernel_rfl) (fun st h => J80_2_ok  K st.tm st.g h) ?_
  try unfold J80_0 at h
  unfold kj80_2
  generalize @J80_2 = Q80_2 at h ⊢
  unfold kj80_1
  generalize @J80_1 = Q80_1 at h ⊢
  refine code2_sound ok_mono _ _ _ ?_
  refine kmp ?_ h
  generalize Ok Try.prog = C
  unfold en80
  as_aux_lemma => kernel_rfl

noncomputable def F80 (x0 x1 : LV) (g : LHeap) (K : LV → LHeap → Prop) : Prop :=
  J80_0 x0 x1 g  K
theorem ok80 {x0 x1 : LV} {g : LHeap} {K : LV → LHeap → Prop} (h : g.Wf → (∀ v ∈ ([x0, x1] : List LV), ∀ b ∈ v.objs, b < g.next) → F80 x0 x1 g K) : Ok Try.prog 80 [x0, x1] g K := by
  refine ok_fw Try.mixed Try.func80 (by kernel_rfl) (by kernel_rfl) (c := nd80 []) (by kernel_rfl) fun wf lt => ?_
  rw [← en80_eq]
  replace h := h wf lt
  generalize hs : startL _ = tm
  replace h : F80 (tm 0) (tm 1) g K := by rw [← hs]; exact h
  refine seq_i (a := nd80 [0]) (b := nd80 [1]) (k' := kj80_0  K) (by kernel_rfl) (fun st h => J80_0_ok  K st.tm st.g h) ?_
  try unfold F80 at h
  unfold kj80_0
  generalize @J80_0 = Q80_0 at h ⊢
  refine code2_sound ok_mono _ _ _ ?_
  refine kmp ?_ h
  generalize Ok Try.prog = C
  unfold en80
  as_aux_lemma => kernel_rfl

end Go.Proofs.Ytgncgokjbakdmaa
