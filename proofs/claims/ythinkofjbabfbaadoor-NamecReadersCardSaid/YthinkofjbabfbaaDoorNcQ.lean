/-
  Functions of the program, as texts of named values.
-/
import Derived.Test.YthinkofjbabfbaaDoorNc0
set_option linter.all false
namespace Go.Proofs.YthinkofjbabfbaaDoor
open Go.ChangeShapes Go.WideShapes Go.ChangeAt Go.RowKit Go.Lm
set_option maxRecDepth 1000000
set_option linter.unusedVariables false
/-! parapet/parapetlaw19.NamecKeeps (191 slots) -/
noncomputable def en4 (K : LV → LHeap → Prop) : LEx → LSt → Prop := fun e st => match e with
  | .exit _ => False
  | _ => K (st.tm 4) st.g
theorem en4_eq (K : LV → LHeap → Prop) : en4 K = endL Tryd.prog Tryd.f4 K := by
  funext e st
  cases e <;> kernel_rfl
noncomputable def nd4 (p : List Nat) : Code := subC p (bodyC Tryd.prog 4)
noncomputable def J4_10 (g : LHeap)  (K : LV → LHeap → Prop) : Prop :=
  K (.bool true) g
abbrev kj4_10  (K : LV → LHeap → Prop) : LSt → Prop := fun st => J4_10  st.g  K
theorem J4_10_ok  (K : LV → LHeap → Prop) (tm : Nat → LV) (g : LHeap) (h : J4_10  g  K) : codeL Tryd.prog (Ok Tryd.prog) (nd4 [1, 1, 1, 1, 1, 1, 1, 1, 1, 1, 1]) ⟨tm, g⟩ (en4 K) := by
  try unfold J4_10 at h
  refine code2_sound ok_mono _ _ _ ?_
  refine kmp ?_ h
  generalize Ok Tryd.prog = C
  try unfold en4
  as_aux_lemma => kernel_rfl

noncomputable def L4_12 (x9 x18 : LV) (x19 : LV) (g : LHeap) (N12 : LV → LHeap → Prop) (K : LV → LHeap → Prop) : Prop :=
  oK (builtinL Tryd.prog .len [51] [x18] g) fun t174 g =>
  vK (binL Tryd.prog .lss 3 false x19 t174) fun t175 =>
  ifB t175 (
  vK (ixAddrL none 2 x18 x19) fun t180 =>
  vK (loadV (some 2) t180 g) fun t181 =>
  vK (nilCheckL x9) fun t183 =>
  vK (fieldAddrL 1 t183) fun t184 =>
  vK (loadV none t184 g) fun t185 =>
  vK (ixAddrL none 4 t185 x19) fun t187 =>
  vK (fieldAddrL 0 t187) fun t188 =>
  vK (loadV (some 2) t188 g) fun t189 =>
  vK (binL Tryd.prog .neq 42 false t181 t189) fun t190 =>
  ifB t190 (
  K (.bool false) g) (
  vK (binL Tryd.prog .add 3 true x19 (.int .i64 (1))) fun t177 =>
  N12 t177 g)) (
  J4_10  g  K)
theorem L4_12_ok (R12 : LV × LV → LV → LHeap → Prop) (K : LV → LHeap → Prop) (tm : Nat → LV) (g : LHeap) (h : L4_12 (tm 9) (tm 18) (tm 19) g (fun s g => R12 ((tm 9), (tm 18)) s g) K) : codeL Tryd.prog (Ok Tryd.prog) (nd4 [1, 1, 1, 1, 1, 1, 1, 1, 1, 1, 0, 1, 0, 0]) ⟨tm, g⟩ (roundK (fun tm : Nat → LV => (tm 9, tm 18)) (fun tm : Nat → LV => tm 19) R12 (exitL 5 (thenL (kj4_10  K) (en4 K)))) := by
  try unfold L4_12 at h
  unfold kj4_10
  generalize @J4_10 = Q4_10 at h ⊢
  refine code3_sound ok_mono (pl := [(44, (.lt 0 false (.lt 1 false (.lt 2 false (.lt 3 false (.lt 4 false (.lt 5 false (.lt 6 false (.lt 7 false (.lt 8 false (.lt 9 false (.lt 10 false (.lt 11 false (.lt 12 false .nil))))))))))))))]) _ _ _ (by kernel_rfl) ?_
  refine kmp ?_ h
  generalize Ok Tryd.prog = C
  try unfold en4
  as_aux_lemma => kernel_rfl

noncomputable def J4_11 (x9 x18 x19 : LV) (g : LHeap)  (K : LV → LHeap → Prop) : Prop :=
  loopP (fun s g N => L4_12 x9 x18 s g N  K) x19 g
abbrev kj4_11  (K : LV → LHeap → Prop) : LSt → Prop := fun st => J4_11 (st.tm 9) (st.tm 18) (st.tm 19) st.g  K
theorem J4_11_ok  (K : LV → LHeap → Prop) (tm : Nat → LV) (g : LHeap) (h : J4_11 (tm 9) (tm 18) (tm 19) g  K) : codeL Tryd.prog (Ok Tryd.prog) (nd4 [1, 1, 1, 1, 1, 1, 1, 1, 1, 1, 0, 1]) ⟨tm, g⟩ (thenL (kj4_10  K) (en4 K)) := by
  refine block_i (b := nd4 [1, 1, 1, 1, 1, 1, 1, 1, 1, 1, 0, 1, 0]) (i := 5) (by kernel_rfl) ?_
  exact loop_glue (b := nd4 [1, 1, 1, 1, 1, 1, 1, 1, 1, 1, 0, 1, 0, 0]) (by kernel_rfl) (fun tm : Nat → LV => (tm 9, tm 18)) (fun tm : Nat → LV => tm 19) (fun a s g N => L4_12 a.1 a.2 s g N  K) (fun tm g R h => L4_12_ok R  K tm g h) tm g h

noncomputable def J4_9 (x9 x18 : LV) (g : LHeap)  (K : LV → LHeap → Prop) : Prop :=
  J4_11 x9 x18 (.int .i64 (0)) g  K
abbrev kj4_9  (K : LV → LHeap → Prop) : LSt → Prop := fun st => J4_9 (st.tm 9) (st.tm 18) st.g  K
theorem J4_9_ok  (K : LV → LHeap → Prop) (tm : Nat → LV) (g : LHeap) (h : J4_9 (tm 9) (tm 18) g  K) : codeL Tryd.prog (Ok Tryd.prog) (nd4 [1, 1, 1, 1, 1, 1, 1, 1, 1, 1]) ⟨tm, g⟩ (en4 K) := by
  refine seq_i (a := nd4 [1, 1, 1, 1, 1, 1, 1, 1, 1, 1, 0]) (b := nd4 [1, 1, 1, 1, 1, 1, 1, 1, 1, 1, 1]) (k' := kj4_10  K) (by kernel_rfl) (fun st h => J4_10_ok  K st.tm st.g h) ?_
  refine seq_i (a := nd4 [1, 1, 1, 1, 1, 1, 1, 1, 1, 1, 0, 0]) (b := nd4 [1, 1, 1, 1, 1, 1, 1, 1, 1, 1, 0, 1]) (k' := kj4_11  K) (by kernel_rfl) (fun st h => J4_11_ok  K st.tm st.g h) ?_
  try unfold J4_9 at h
  unfold kj4_11
  generalize @J4_11 = Q4_11 at h ⊢
  unfold kj4_10
  generalize @J4_10 = Q4_10 at h ⊢
  refine code2_sound ok_mono _ _ _ ?_
  refine kmp ?_ h
  generalize Ok Tryd.prog = C
  try unfold en4
  as_aux_lemma => kernel_rfl

noncomputable def J4_8 (x9 x18 : LV) (g : LHeap)  (K : LV → LHeap → Prop) : Prop :=
  oK (builtinL Tryd.prog .len [51] [x18] g) fun t165 g =>
  vK (nilCheckL x9) fun t167 =>
  vK (fieldAddrL 1 t167) fun t168 =>
  vK (loadV none t168 g) fun t169 =>
  oK (builtinL Tryd.prog .len [37] [t169] g) fun t170 g =>
  vK (binL Tryd.prog .neq 3 false t165 t170) fun t171 =>
  ifB t171 (
  K (.bool false) g) (
  J4_9 x9 x18 g  K)
abbrev kj4_8  (K : LV → LHeap → Prop) : LSt → Prop := fun st => J4_8 (st.tm 9) (st.tm 18) st.g  K
theorem J4_8_ok  (K : LV → LHeap → Prop) (tm : Nat → LV) (g : LHeap) (h : J4_8 (tm 9) (tm 18) g  K) : codeL Tryd.prog (Ok Tryd.prog) (nd4 [1, 1, 1, 1, 1, 1, 1, 1, 1]) ⟨tm, g⟩ (en4 K) := by
  refine seq_i (a := nd4 [1, 1, 1, 1, 1, 1, 1, 1, 1, 0]) (b := nd4 [1, 1, 1, 1, 1, 1, 1, 1, 1, 1]) (k' := kj4_9  K) (by kernel_rfl) (fun st h => J4_9_ok  K st.tm st.g h) ?_
  try unfold J4_8 at h
  unfold kj4_9
  generalize @J4_9 = Q4_9 at h ⊢
  refine code2_sound ok_mono _ _ _ ?_
  refine kmp ?_ h
  generalize Ok Tryd.prog = C
  try unfold en4
  as_aux_lemma => kernel_rfl

noncomputable def J4_7 (x7 x9 : LV) (g : LHeap)  (K : LV → LHeap → Prop) : Prop :=
  Ok Tryd.prog 26 [x7] g fun t163 g =>
  J4_8 x9 t163 g  K
abbrev kj4_7  (K : LV → LHeap → Prop) : LSt → Prop := fun st => J4_7 (st.tm 7) (st.tm 9) st.g  K
theorem J4_7_ok  (K : LV → LHeap → Prop) (tm : Nat → LV) (g : LHeap) (h : J4_7 (tm 7) (tm 9) g  K) : codeL Tryd.prog (Ok Tryd.prog) (nd4 [1, 1, 1, 1, 1, 1, 1, 1]) ⟨tm, g⟩ (en4 K) := by
  refine seq_i (a := nd4 [1, 1, 1, 1, 1, 1, 1, 1, 0]) (b := nd4 [1, 1, 1, 1, 1, 1, 1, 1, 1]) (k' := kj4_8  K) (by kernel_rfl) (fun st h => J4_8_ok  K st.tm st.g h) ?_
  try unfold J4_7 at h
  unfold kj4_8
  generalize @J4_8 = Q4_8 at h ⊢
  refine code2_sound ok_mono _ _ _ ?_
  refine kmp ?_ h
  generalize Ok Tryd.prog = C
  try unfold en4
  as_aux_lemma => kernel_rfl

noncomputable def J4_16 (x1 x5 x7 x9 x10 : LV) (g : LHeap) (N14 : LV → LHeap → Prop) (K : LV → LHeap → Prop) : Prop :=
  vK (binL Tryd.prog .add 3 true x10 (.int .i64 (1))) fun t62 =>
  N14 t62 g
abbrev kj4_16 (R14 : LV × LV × LV × LV → LV → LHeap → Prop) (K : LV → LHeap → Prop) : LSt → Prop := fun st => J4_16 (st.tm 1) (st.tm 5) (st.tm 7) (st.tm 9) (st.tm 10) st.g (fun s g => R14 ((st.tm 1), (st.tm 5), (st.tm 7), (st.tm 9)) s g) K
theorem J4_16_ok (R14 : LV × LV × LV × LV → LV → LHeap → Prop) (K : LV → LHeap → Prop) (tm : Nat → LV) (g : LHeap) (h : J4_16 (tm 1) (tm 5) (tm 7) (tm 9) (tm 10) g (fun s g => R14 ((tm 1), (tm 5), (tm 7), (tm 9)) s g) K) : codeL Tryd.prog (Ok Tryd.prog) (nd4 [1, 1, 1, 1, 1, 1, 1, 0, 1, 0, 0, 1, 1]) ⟨tm, g⟩ (roundK (fun tm : Nat → LV => (tm 1, tm 5, tm 7, tm 9)) (fun tm : Nat → LV => tm 10) R14 (exitL 0 (thenL (kj4_7  K) (en4 K)))) := by
  try unfold J4_16 at h
  unfold kj4_7
  generalize @J4_7 = Q4_7 at h ⊢
  refine code2_sound ok_mono _ _ _ ?_
  refine kmp ?_ h
  generalize Ok Tryd.prog = C
  try unfold en4
  as_aux_lemma => kernel_rfl

noncomputable def L4_27 (x1 x5 x7 x9 x10 x16 : LV) (x17 : LV) (g : LHeap) (N27 : LV → LHeap → Prop) (N14 : LV → LHeap → Prop) (K : LV → LHeap → Prop) : Prop :=
  oK (builtinL Tryd.prog .len [38] [x16] g) fun t146 g =>
  vK (binL Tryd.prog .lss 3 false x17 t146) fun t147 =>
  ifB t147 (
  vK (ixAddrL none 1 x16 x17) fun t152 =>
  vK (loadV none t152 g) fun t153 =>
  vK (nilCheckL x9) fun t155 =>
  vK (fieldAddrL 3 t155) fun t156 =>
  vK (loadV none t156 g) fun t157 =>
  vK (ixAddrL none 1 t157 x17) fun t159 =>
  vK (loadV none t159 g) fun t160 =>
  vK (binL Tryd.prog .neq 3 false t153 t160) fun t161 =>
  ifB t161 (
  K (.bool false) g) (
  vK (binL Tryd.prog .add 3 true x17 (.int .i64 (1))) fun t149 =>
  N27 t149 g)) (
  J4_16 x1 x5 x7 x9 x10 g N14 K)
theorem L4_27_ok (R27 : LV × LV × LV × LV × LV × LV → LV → LHeap → Prop) (R14 : LV × LV × LV × LV → LV → LHeap → Prop) (K : LV → LHeap → Prop) (tm : Nat → LV) (g : LHeap) (h : L4_27 (tm 1) (tm 5) (tm 7) (tm 9) (tm 10) (tm 16) (tm 17) g (fun s g => R27 ((tm 1), (tm 5), (tm 7), (tm 9), (tm 10), (tm 16)) s g) (fun s g => R14 ((tm 1), (tm 5), (tm 7), (tm 9)) s g) K) : codeL Tryd.prog (Ok Tryd.prog) (nd4 [1, 1, 1, 1, 1, 1, 1, 0, 1, 0, 0, 1, 0, 0, 1, 1, 0, 1, 1, 1, 1, 1, 1, 1, 1, 1, 0, 1, 1, 1, 0, 0]) ⟨tm, g⟩ (roundK (fun tm : Nat → LV => (tm 1, tm 5, tm 7, tm 9, tm 10, tm 16)) (fun tm : Nat → LV => tm 17) R27 (exitL 3 (exitL 2 (exitL 1 (thenL (kj4_16 R14 K) (roundK (fun tm : Nat → LV => (tm 1, tm 5, tm 7, tm 9)) (fun tm : Nat → LV => tm 10) R14 (exitL 0 (thenL (kj4_7  K) (en4 K))))))))) := by
  try unfold L4_27 at h
  unfold kj4_16
  generalize @J4_16 = Q4_16 at h ⊢
  unfold kj4_7
  generalize @J4_7 = Q4_7 at h ⊢
  refine code2_sound ok_mono _ _ _ ?_
  refine kmp ?_ h
  generalize Ok Tryd.prog = C
  try unfold en4
  as_aux_lemma => kernel_rfl

noncomputable def J4_26 (x1 x5 x7 x9 x10 x16 x17 : LV) (g : LHeap) (N14 : LV → LHeap → Prop) (K : LV → LHeap → Prop) : Prop :=
  loopP (fun s g N => L4_27 x1 x5 x7 x9 x10 x16 s g N N14 K) x17 g
abbrev kj4_26 (R14 : LV × LV × LV × LV → LV → LHeap → Prop) (K : LV → LHeap → Prop) : LSt → Prop := fun st => J4_26 (st.tm 1) (st.tm 5) (st.tm 7) (st.tm 9) (st.tm 10) (st.tm 16) (st.tm 17) st.g (fun s g => R14 ((st.tm 1), (st.tm 5), (st.tm 7), (st.tm 9)) s g) K
theorem J4_26_ok (R14 : LV × LV × LV × LV → LV → LHeap → Prop) (K : LV → LHeap → Prop) (tm : Nat → LV) (g : LHeap) (h : J4_26 (tm 1) (tm 5) (tm 7) (tm 9) (tm 10) (tm 16) (tm 17) g (fun s g => R14 ((tm 1), (tm 5), (tm 7), (tm 9)) s g) K) : codeL Tryd.prog (Ok Tryd.prog) (nd4 [1, 1, 1, 1, 1, 1, 1, 0, 1, 0, 0, 1, 0, 0, 1, 1, 0, 1, 1, 1, 1, 1, 1, 1, 1, 1, 0, 1, 1, 1]) ⟨tm, g⟩ (exitL 2 (exitL 1 (thenL (kj4_16 R14 K) (roundK (fun tm : Nat → LV => (tm 1, tm 5, tm 7, tm 9)) (fun tm : Nat → LV => tm 10) R14 (exitL 0 (thenL (kj4_7  K) (en4 K))))))) := by
  refine block_i (b := nd4 [1, 1, 1, 1, 1, 1, 1, 0, 1, 0, 0, 1, 0, 0, 1, 1, 0, 1, 1, 1, 1, 1, 1, 1, 1, 1, 0, 1, 1, 1, 0]) (i := 3) (by kernel_rfl) ?_
  exact loop_glue (b := nd4 [1, 1, 1, 1, 1, 1, 1, 0, 1, 0, 0, 1, 0, 0, 1, 1, 0, 1, 1, 1, 1, 1, 1, 1, 1, 1, 0, 1, 1, 1, 0, 0]) (by kernel_rfl) (fun tm : Nat → LV => (tm 1, tm 5, tm 7, tm 9, tm 10, tm 16)) (fun tm : Nat → LV => tm 17) (fun a s g N => L4_27 a.1 a.2.1 a.2.2.1 a.2.2.2.1 a.2.2.2.2.1 a.2.2.2.2.2 s g N (fun s g => R14 ((a.1), (a.2.1), (a.2.2.1), (a.2.2.2.1)) s g) K) (fun tm g R h => L4_27_ok R R14 K tm g h) tm g h

noncomputable def J4_25 (x1 x5 x7 x9 x10 x16 : LV) (g : LHeap) (N14 : LV → LHeap → Prop) (K : LV → LHeap → Prop) : Prop :=
  J4_26 x1 x5 x7 x9 x10 x16 (.int .i64 (0)) g N14 K
abbrev kj4_25 (R14 : LV × LV × LV × LV → LV → LHeap → Prop) (K : LV → LHeap → Prop) : LSt → Prop := fun st => J4_25 (st.tm 1) (st.tm 5) (st.tm 7) (st.tm 9) (st.tm 10) (st.tm 16) st.g (fun s g => R14 ((st.tm 1), (st.tm 5), (st.tm 7), (st.tm 9)) s g) K
theorem J4_25_ok (R14 : LV × LV × LV × LV → LV → LHeap → Prop) (K : LV → LHeap → Prop) (tm : Nat → LV) (g : LHeap) (h : J4_25 (tm 1) (tm 5) (tm 7) (tm 9) (tm 10) (tm 16) g (fun s g => R14 ((tm 1), (tm 5), (tm 7), (tm 9)) s g) K) : codeL Tryd.prog (Ok Tryd.prog) (nd4 [1, 1, 1, 1, 1, 1, 1, 0, 1, 0, 0, 1, 0, 0, 1, 1, 0, 1, 1, 1, 1, 1, 1, 1, 1, 1, 0, 1, 1]) ⟨tm, g⟩ (exitL 2 (exitL 1 (thenL (kj4_16 R14 K) (roundK (fun tm : Nat → LV => (tm 1, tm 5, tm 7, tm 9)) (fun tm : Nat → LV => tm 10) R14 (exitL 0 (thenL (kj4_7  K) (en4 K))))))) := by
  refine seq_i (a := nd4 [1, 1, 1, 1, 1, 1, 1, 0, 1, 0, 0, 1, 0, 0, 1, 1, 0, 1, 1, 1, 1, 1, 1, 1, 1, 1, 0, 1, 1, 0]) (b := nd4 [1, 1, 1, 1, 1, 1, 1, 0, 1, 0, 0, 1, 0, 0, 1, 1, 0, 1, 1, 1, 1, 1, 1, 1, 1, 1, 0, 1, 1, 1]) (k' := kj4_26 R14 K) (by kernel_rfl) (fun st h => J4_26_ok R14 K st.tm st.g h) ?_
  try unfold J4_25 at h
  unfold kj4_26
  generalize @J4_26 = Q4_26 at h ⊢
  unfold kj4_16
  generalize @J4_16 = Q4_16 at h ⊢
  unfold kj4_7
  generalize @J4_7 = Q4_7 at h ⊢
  refine code2_sound ok_mono _ _ _ ?_
  refine kmp ?_ h
  generalize Ok Tryd.prog = C
  try unfold en4
  as_aux_lemma => kernel_rfl

noncomputable def J4_24 (x1 x5 x7 x9 x10 x16 : LV) (g : LHeap) (N14 : LV → LHeap → Prop) (K : LV → LHeap → Prop) : Prop :=
  oK (builtinL Tryd.prog .len [38] [x16] g) fun t137 g =>
  vK (nilCheckL x9) fun t139 =>
  vK (fieldAddrL 3 t139) fun t140 =>
  vK (loadV none t140 g) fun t141 =>
  oK (builtinL Tryd.prog .len [38] [t141] g) fun t142 g =>
  vK (binL Tryd.prog .neq 3 false t137 t142) fun t143 =>
  ifB t143 (
  K (.bool false) g) (
  J4_25 x1 x5 x7 x9 x10 x16 g N14 K)
abbrev kj4_24 (R14 : LV × LV × LV × LV → LV → LHeap → Prop) (K : LV → LHeap → Prop) : LSt → Prop := fun st => J4_24 (st.tm 1) (st.tm 5) (st.tm 7) (st.tm 9) (st.tm 10) (st.tm 16) st.g (fun s g => R14 ((st.tm 1), (st.tm 5), (st.tm 7), (st.tm 9)) s g) K
theorem J4_24_ok (R14 : LV × LV × LV × LV → LV → LHeap → Prop) (K : LV → LHeap → Prop) (tm : Nat → LV) (g : LHeap) (h : J4_24 (tm 1) (tm 5) (tm 7) (tm 9) (tm 10) (tm 16) g (fun s g => R14 ((tm 1), (tm 5), (tm 7), (tm 9)) s g) K) : codeL Tryd.prog (Ok Tryd.prog) (nd4 [1, 1, 1, 1, 1, 1, 1, 0, 1, 0, 0, 1, 0, 0, 1, 1, 0, 1, 1, 1, 1, 1, 1, 1, 1, 1, 0, 1]) ⟨tm, g⟩ (exitL 2 (exitL 1 (thenL (kj4_16 R14 K) (roundK (fun tm : Nat → LV => (tm 1, tm 5, tm 7, tm 9)) (fun tm : Nat → LV => tm 10) R14 (exitL 0 (thenL (kj4_7  K) (en4 K))))))) := by
  refine seq_i (a := nd4 [1, 1, 1, 1, 1, 1, 1, 0, 1, 0, 0, 1, 0, 0, 1, 1, 0, 1, 1, 1, 1, 1, 1, 1, 1, 1, 0, 1, 0]) (b := nd4 [1, 1, 1, 1, 1, 1, 1, 0, 1, 0, 0, 1, 0, 0, 1, 1, 0, 1, 1, 1, 1, 1, 1, 1, 1, 1, 0, 1, 1]) (k' := kj4_25 R14 K) (by kernel_rfl) (fun st h => J4_25_ok R14 K st.tm st.g h) ?_
  try unfold J4_24 at h
  unfold kj4_25
  generalize @J4_25 = Q4_25 at h ⊢
  unfold kj4_16
  generalize @J4_16 = Q4_16 at h ⊢
  unfold kj4_7
  generalize @J4_7 = Q4_7 at h ⊢
  refine code2_sound ok_mono _ _ _ ?_
  refine kmp ?_ h
  generalize Ok Tryd.prog = C
  try unfold en4
  as_aux_lemma => kernel_rfl

noncomputable def J4_23 (x1 x5 x7 x9 x10 x132 : LV) (g : LHeap) (N14 : LV → LHeap → Prop) (K : LV → LHeap → Prop) : Prop :=
  ifB x132 (
  Ok Tryd.prog 25 [x5] g fun t135 g =>
  J4_24 x1 x5 x7 x9 x10 t135 g N14 K) (
  J4_16 x1 x5 x7 x9 x10 g N14 K)
abbrev kj4_23 (R14 : LV × LV × LV × LV → LV → LHeap → Prop) (K : LV → LHeap → Prop) : LSt → Prop := fun st => J4_23 (st.tm 1) (st.tm 5) (st.tm 7) (st.tm 9) (st.tm 10) (st.tm 132) st.g (fun s g => R14 ((st.tm 1), (st.tm 5), (st.tm 7), (st.tm 9)) s g) K
theorem J4_23_ok (R14 : LV × LV × LV × LV → LV → LHeap → Prop) (K : LV → LHeap → Prop) (tm : Nat → LV) (g : LHeap) (h : J4_23 (tm 1) (tm 5) (tm 7) (tm 9) (tm 10) (tm 132) g (fun s g => R14 ((tm 1), (tm 5), (tm 7), (tm 9)) s g) K) : codeL Tryd.prog (Ok Tryd.prog) (nd4 [1, 1, 1, 1, 1, 1, 1, 0, 1, 0, 0, 1, 0, 0, 1, 1, 0, 1, 1, 1, 1, 1, 1, 1, 1, 1]) ⟨tm, g⟩ (exitL 2 (exitL 1 (thenL (kj4_16 R14 K) (roundK (fun tm : Nat → LV => (tm 1, tm 5, tm 7, tm 9)) (fun tm : Nat → LV => tm 10) R14 (exitL 0 (thenL (kj4_7  K) (en4 K))))))) := by
  refine cond_i (a := nd4 [1, 1, 1, 1, 1, 1, 1, 0, 1, 0, 0, 1, 0, 0, 1, 1, 0, 1, 1, 1, 1, 1, 1, 1, 1, 1, 0]) (b := nd4 [1, 1, 1, 1, 1, 1, 1, 0, 1, 0, 0, 1, 0, 0, 1, 1, 0, 1, 1, 1, 1, 1, 1, 1, 1, 1, 1]) (by kernel_rfl) h (fun h => ?_) (fun h => ?_)
  refine seq_i (a := nd4 [1, 1, 1, 1, 1, 1, 1, 0, 1, 0, 0, 1, 0, 0, 1, 1, 0, 1, 1, 1, 1, 1, 1, 1, 1, 1, 0, 0]) (b := nd4 [1, 1, 1, 1, 1, 1, 1, 0, 1, 0, 0, 1, 0, 0, 1, 1, 0, 1, 1, 1, 1, 1, 1, 1, 1, 1, 0, 1]) (k' := kj4_24 R14 K) (by kernel_rfl) (fun st h => J4_24_ok R14 K st.tm st.g h) ?_
  try unfold J4_23 at h
  unfold kj4_24
  generalize @J4_24 = Q4_24 at h ⊢
  unfold kj4_16
  generalize @J4_16 = Q4_16 at h ⊢
  unfold kj4_7
  generalize @J4_7 = Q4_7 at h ⊢
  refine code2_sound ok_mono _ _ _ ?_
  refine kmp ?_ h
  generalize Ok Tryd.prog = C
  try unfold en4
  as_aux_lemma => kernel_rfl
  try unfold J4_23 at h
  unfold kj4_16
  generalize @J4_16 = Q4_16 at h ⊢
  unfold kj4_7
  generalize @J4_7 = Q4_7 at h ⊢
  refine code2_sound ok_mono _ _ _ ?_
  refine kmp ?_ h
  generalize Ok Tryd.prog = C
  try unfold en4
  as_aux_lemma => kernel_rfl

noncomputable def J4_22 (x1 x5 x7 x9 x10 x11 x68 x119 : LV) (g : LHeap) (N14 : LV → LHeap → Prop) (K : LV → LHeap → Prop) : Prop :=
  ifB x119 (
  vK (fieldAddrL 1 x11) fun t122 =>
  vK (fieldAddrL 0 t122) fun t123 =>
  vK (loadV none t123 g) fun t124 =>
  vK (fieldAddrL 1 x11) fun t127 =>
  vK (fieldAddrL 0 t127) fun t128 =>
  vK (loadV none t128 g) fun t129 =>
  ((Ok Tryd.prog 23 [x7, t124] g fun t125 g =>
  ((loadV none t128 g) = some t129 ∧ 
  ((Ok Tryd.prog 24 [x9, t129] g fun t130 g =>
  
  vK (binL Tryd.prog .neq 3 false t125 t130) fun t131 =>
  ifB t131 (
  K (.bool false) g) (
  J4_16 x1 x5 x7 x9 x10 g N14 K)) ∧ True))) ∧ True)) (
  vK (binL Tryd.prog .eql 3 true x68 (.int .i64 (5))) fun t133 =>
  J4_23 x1 x5 x7 x9 x10 t133 g N14 K)
abbrev kj4_22 (R14 : LV × LV × LV × LV → LV → LHeap → Prop) (K : LV → LHeap → Prop) : LSt → Prop := fun st => J4_22 (st.tm 1) (st.tm 5) (st.tm 7) (st.tm 9) (st.tm 10) (st.tm 11) (st.tm 68) (st.tm 119) st.g (fun s g => R14 ((st.tm 1), (st.tm 5), (st.tm 7), (st.tm 9)) s g) K
theorem J4_22_ok (R14 : LV × LV × LV × LV → LV → LHeap → Prop) (K : LV → LHeap → Prop) (tm : Nat → LV) (g : LHeap) (h : J4_22 (tm 1) (tm 5) (tm 7) (tm 9) (tm 10) (tm 11) (tm 68) (tm 119) g (fun s g => R14 ((tm 1), (tm 5), (tm 7), (tm 9)) s g) K) : codeL Tryd.prog (Ok Tryd.prog) (nd4 [1, 1, 1, 1, 1, 1, 1, 0, 1, 0, 0, 1, 0, 0, 1, 1, 0, 1, 1, 1, 1, 1, 1, 1]) ⟨tm, g⟩ (exitL 2 (exitL 1 (thenL (kj4_16 R14 K) (roundK (fun tm : Nat → LV => (tm 1, tm 5, tm 7, tm 9)) (fun tm : Nat → LV => tm 10) R14 (exitL 0 (thenL (kj4_7  K) (en4 K))))))) := by
  refine cond_i (a := nd4 [1, 1, 1, 1, 1, 1, 1, 0, 1, 0, 0, 1, 0, 0, 1, 1, 0, 1, 1, 1, 1, 1, 1, 1, 0]) (b := nd4 [1, 1, 1, 1, 1, 1, 1, 0, 1, 0, 0, 1, 0, 0, 1, 1, 0, 1, 1, 1, 1, 1, 1, 1, 1]) (by kernel_rfl) h (fun h => ?_) (fun h => ?_)
  try unfold J4_22 at h
  unfold kj4_16
  generalize @J4_16 = Q4_16 at h ⊢
  unfold kj4_7
  generalize @J4_7 = Q4_7 at h ⊢
  refine code2_sound ok_mono _ _ _ ?_
  refine kmp ?_ h
  generalize Ok Tryd.prog = C
  try unfold en4
  as_aux_lemma => kernel_rfl
  refine seq_i (a := nd4 [1, 1, 1, 1, 1, 1, 1, 0, 1, 0, 0, 1, 0, 0, 1, 1, 0, 1, 1, 1, 1, 1, 1, 1, 1, 0]) (b := nd4 [1, 1, 1, 1, 1, 1, 1, 0, 1, 0, 0, 1, 0, 0, 1, 1, 0, 1, 1, 1, 1, 1, 1, 1, 1, 1]) (k' := kj4_23 R14 K) (by kernel_rfl) (fun st h => J4_23_ok R14 K st.tm st.g h) ?_
  try unfold J4_22 at h
  unfold kj4_23
  generalize @J4_23 = Q4_23 at h ⊢
  unfold kj4_16
  generalize @J4_16 = Q4_16 at h ⊢
  unfold kj4_7
  generalize @J4_7 = Q4_7 at h ⊢
  refine code2_sound ok_mono _ _ _ ?_
  refine kmp ?_ h
  generalize Ok Tryd.prog = C
  try unfold en4
  as_aux_lemma => kernel_rfl

noncomputable def J4_21 (x1 x5 x7 x9 x10 x11 x68 x108 : LV) (g : LHeap) (N14 : LV → LHeap → Prop) (K : LV → LHeap → Prop) : Prop :=
  ifB x108 (
  vK (fieldAddrL 1 x11) fun t111 =>
  vK (loadV (some 2) t111 g) fun t112 =>
  vK (fieldAddrL 1 x11) fun t115 =>
  vK (loadV (some 2) t115 g) fun t116 =>
  ((Ok Tryd.prog 21 [x7, t112] g fun t113 g =>
  ((loadV (some 2) t115 g) = some t116 ∧ 
  ((Ok Tryd.prog 22 [x9, t116] g fun t117 g =>
  
  vK (binL Tryd.prog .neq 4 false t113 t117) fun t118 =>
  ifB t118 (
  K (.bool false) g) (
  J4_16 x1 x5 x7 x9 x10 g N14 K)) ∧ True))) ∧ True)) (
  vK (binL Tryd.prog .eql 3 true x68 (.int .i64 (4))) fun t120 =>
  J4_22 x1 x5 x7 x9 x10 x11 x68 t120 g N14 K)
abbrev kj4_21 (R14 : LV × LV × LV × LV → LV → LHeap → Prop) (K : LV → LHeap → Prop) : LSt → Prop := fun st => J4_21 (st.tm 1) (st.tm 5) (st.tm 7) (st.tm 9) (st.tm 10) (st.tm 11) (st.tm 68) (st.tm 108) st.g (fun s g => R14 ((st.tm 1), (st.tm 5), (st.tm 7), (st.tm 9)) s g) K
theorem J4_21_ok (R14 : LV × LV × LV × LV → LV → LHeap → Prop) (K : LV → LHeap → Prop) (tm : Nat → LV) (g : LHeap) (h : J4_21 (tm 1) (tm 5) (tm 7) (tm 9) (tm 10) (tm 11) (tm 68) (tm 108) g (fun s g => R14 ((tm 1), (tm 5), (tm 7), (tm 9)) s g) K) : codeL Tryd.prog (Ok Tryd.prog) (nd4 [1, 1, 1, 1, 1, 1, 1, 0, 1, 0, 0, 1, 0, 0, 1, 1, 0, 1, 1, 1, 1, 1]) ⟨tm, g⟩ (exitL 2 (exitL 1 (thenL (kj4_16 R14 K) (roundK (fun tm : Nat → LV => (tm 1, tm 5, tm 7, tm 9)) (fun tm : Nat → LV => tm 10) R14 (exitL 0 (thenL (kj4_7  K) (en4 K))))))) := by
  refine cond_i (a := nd4 [1, 1, 1, 1, 1, 1, 1, 0, 1, 0, 0, 1, 0, 0, 1, 1, 0, 1, 1, 1, 1, 1, 0]) (b := nd4 [1, 1, 1, 1, 1, 1, 1, 0, 1, 0, 0, 1, 0, 0, 1, 1, 0, 1, 1, 1, 1, 1, 1]) (by kernel_rfl) h (fun h => ?_) (fun h => ?_)
  try unfold J4_21 at h
  unfold kj4_16
  generalize @J4_16 = Q4_16 at h ⊢
  unfold kj4_7
  generalize @J4_7 = Q4_7 at h ⊢
  refine code2_sound ok_mono _ _ _ ?_
  refine kmp ?_ h
  generalize Ok Tryd.prog = C
  try unfold en4
  as_aux_lemma => kernel_rfl
  refine seq_i (a := nd4 [1, 1, 1, 1, 1, 1, 1, 0, 1, 0, 0, 1, 0, 0, 1, 1, 0, 1, 1, 1, 1, 1, 1, 0]) (b := nd4 [1, 1, 1, 1, 1, 1, 1, 0, 1, 0, 0, 1, 0, 0, 1, 1, 0, 1, 1, 1, 1, 1, 1, 1]) (k' := kj4_22 R14 K) (by kernel_rfl) (fun st h => J4_22_ok R14 K st.tm st.g h) ?_
  try unfold J4_21 at h
  unfold kj4_22
  generalize @J4_22 = Q4_22 at h ⊢
  unfold kj4_16
  generalize @J4_16 = Q4_16 at h ⊢
  unfold kj4_7
  generalize @J4_7 = Q4_7 at h ⊢
  refine code2_sound ok_mono _ _ _ ?_
  refine kmp ?_ h
  generalize Ok Tryd.prog = C
  try unfold en4
  as_aux_lemma => kernel_rfl

noncomputable def J4_20 (x1 x5 x7 x9 x10 x11 x68 x93 : LV) (g : LHeap) (N14 : LV → LHeap → Prop) (K : LV → LHeap → Prop) : Prop :=
  ifB x93 (
  vK (fieldAddrL 1 x11) fun t96 =>
  vK (loadV (some 2) t96 g) fun t97 =>
  vK (fieldAddrL 3 x11) fun t98 =>
  vK (loadV none t98 g) fun t99 =>
  vK (fieldAddrL 1 x11) fun t102 =>
  vK (loadV (some 2) t102 g) fun t103 =>
  vK (fieldAddrL 3 x11) fun t104 =>
  vK (loadV none t104 g) fun t105 =>
  ((Ok Tryd.prog 19 [x7, t97, t99] g fun t100 g =>
  ((loadV none t104 g) = some t105 ∧ ((loadV (some 2) t102 g) = some t103 ∧ 
  ((Ok Tryd.prog 20 [x9, t103, t105] g fun t106 g =>
  
  vK (binL Tryd.prog .neq 23 false t100 t106) fun t107 =>
  ifB t107 (
  K (.bool false) g) (
  J4_16 x1 x5 x7 x9 x10 g N14 K)) ∧ True)))) ∧ True)) (
  vK (binL Tryd.prog .eql 3 true x68 (.int .i64 (3))) fun t109 =>
  J4_21 x1 x5 x7 x9 x10 x11 x68 t109 g N14 K)
abbrev kj4_20 (R14 : LV × LV × LV × LV → LV → LHeap → Prop) (K : LV → LHeap → Prop) : LSt → Prop := fun st => J4_20 (st.tm 1) (st.tm 5) (st.tm 7) (st.tm 9) (st.tm 10) (st.tm 11) (st.tm 68) (st.tm 93) st.g (fun s g => R14 ((st.tm 1), (st.tm 5), (st.tm 7), (st.tm 9)) s g) K
theorem J4_20_ok (R14 : LV × LV × LV × LV → LV → LHeap → Prop) (K : LV → LHeap → Prop) (tm : Nat → LV) (g : LHeap) (h : J4_20 (tm 1) (tm 5) (tm 7) (tm 9) (tm 10) (tm 11) (tm 68) (tm 93) g (fun s g => R14 ((tm 1), (tm 5), (tm 7), (tm 9)) s g) K) : codeL Tryd.prog (Ok Tryd.prog) (nd4 [1, 1, 1, 1, 1, 1, 1, 0, 1, 0, 0, 1, 0, 0, 1, 1, 0, 1, 1, 1]) ⟨tm, g⟩ (exitL 2 (exitL 1 (thenL (kj4_16 R14 K) (roundK (fun tm : Nat → LV => (tm 1, tm 5, tm 7, tm 9)) (fun tm : Nat → LV => tm 10) R14 (exitL 0 (thenL (kj4_7  K) (en4 K))))))) := by
  refine cond_i (a := nd4 [1, 1, 1, 1, 1, 1, 1, 0, 1, 0, 0, 1, 0, 0, 1, 1, 0, 1, 1, 1, 0]) (b := nd4 [1, 1, 1, 1, 1, 1, 1, 0, 1, 0, 0, 1, 0, 0, 1, 1, 0, 1, 1, 1, 1]) (by kernel_rfl) h (fun h => ?_) (fun h => ?_)
  try unfold J4_20 at h
  unfold kj4_16
  generalize @J4_16 = Q4_16 at h ⊢
  unfold kj4_7
  generalize @J4_7 = Q4_7 at h ⊢
  refine code3_sound ok_mono (pl := [(21, (.lt 0 false (.lt 1 false (.lt 2 false (.lt 3 false (.lt 4 false (.lt 6 false (.lt 7 false (.lt 8 true (.lt 9 false (.lt 10 true (.hv 5 (.hv 11 (.lt 12 false .nil) .nil) .nil))))))))))))]) _ _ _ (by kernel_rfl) ?_
  refine kmp ?_ h
  generalize Ok Tryd.prog = C
  try unfold en4
  as_aux_lemma => kernel_rfl
  refine seq_i (a := nd4 [1, 1, 1, 1, 1, 1, 1, 0, 1, 0, 0, 1, 0, 0, 1, 1, 0, 1, 1, 1, 1, 0]) (b := nd4 [1, 1, 1, 1, 1, 1, 1, 0, 1, 0, 0, 1, 0, 0, 1, 1, 0, 1, 1, 1, 1, 1]) (k' := kj4_21 R14 K) (by kernel_rfl) (fun st h => J4_21_ok R14 K st.tm st.g h) ?_
  try unfold J4_20 at h
  unfold kj4_21
  generalize @J4_21 = Q4_21 at h ⊢
  unfold kj4_16
  generalize @J4_16 = Q4_16 at h ⊢
  unfold kj4_7
  generalize @J4_7 = Q4_7 at h ⊢
  refine code2_sound ok_mono _ _ _ ?_
  refine kmp ?_ h
  generalize Ok Tryd.prog = C
  try unfold en4
  as_aux_lemma => kernel_rfl

noncomputable def J4_19 (x1 x5 x7 x9 x10 x11 x68 x69 : LV) (g : LHeap) (N14 : LV → LHeap → Prop) (K : LV → LHeap → Prop) : Prop :=
  ifB x69 (
  vK (fieldAddrL 1 x11) fun t73 =>
  vK (loadV (some 2) t73 g) fun t74 =>
  Ok Tryd.prog 17 [x7, t74] g fun t75 g =>
  vK (extractL t75 0) fun t76 =>
  vK (extractL t75 1) fun t77 =>
  vK (fieldAddrL 1 x11) fun t80 =>
  vK (loadV (some 2) t80 g) fun t81 =>
  Ok Tryd.prog 18 [x9, t81] g fun t82 g =>
  vK (extractL t82 0) fun t83 =>
  vK (extractL t82 1) fun t84 =>
  vK (binL Tryd.prog .neq 3 false t76 t83) fun t87 =>
  gd t87 false g (fun K => K t77 g) fun t89 g =>
  gd t87 false g (fun K => K t84 g) fun t90 g =>
  gd t87 false g (fun K => vK (binL Tryd.prog .neq 4 false t89 t90) fun v => K v g) fun t91 g =>
  vK (pickL t87 (.bool true) t91) fun t92 =>
  ifB t92 (
  K (.bool false) g) (
  J4_16 x1 x5 x7 x9 x10 g N14 K)) (
  vK (binL Tryd.prog .eql 3 true x68 (.int .i64 (2))) fun t94 =>
  J4_20 x1 x5 x7 x9 x10 x11 x68 t94 g N14 K)
abbrev kj4_19 (R14 : LV × LV × LV × LV → LV → LHeap → Prop) (K : LV → LHeap → Prop) : LSt → Prop := fun st => J4_19 (st.tm 1) (st.tm 5) (st.tm 7) (st.tm 9) (st.tm 10) (st.tm 11) (st.tm 68) (st.tm 69) st.g (fun s g => R14 ((st.tm 1), (st.tm 5), (st.tm 7), (st.tm 9)) s g) K
theorem J4_19_ok (R14 : LV × LV × LV × LV → LV → LHeap → Prop) (K : LV → LHeap → Prop) (tm : Nat → LV) (g : LHeap) (h : J4_19 (tm 1) (tm 5) (tm 7) (tm 9) (tm 10) (tm 11) (tm 68) (tm 69) g (fun s g => R14 ((tm 1), (tm 5), (tm 7), (tm 9)) s g) K) : codeL Tryd.prog (Ok Tryd.prog) (nd4 [1, 1, 1, 1, 1, 1, 1, 0, 1, 0, 0, 1, 0, 0, 1, 1, 0, 1]) ⟨tm, g⟩ (exitL 2 (exitL 1 (thenL (kj4_16 R14 K) (roundK (fun tm : Nat → LV => (tm 1, tm 5, tm 7, tm 9)) (fun tm : Nat → LV => tm 10) R14 (exitL 0 (thenL (kj4_7  K) (en4 K))))))) := by
  refine cond_i (a := nd4 [1, 1, 1, 1, 1, 1, 1, 0, 1, 0, 0, 1, 0, 0, 1, 1, 0, 1, 0]) (b := nd4 [1, 1, 1, 1, 1, 1, 1, 0, 1, 0, 0, 1, 0, 0, 1, 1, 0, 1, 1]) (by kernel_rfl) h (fun h => ?_) (fun h => ?_)
  try unfold J4_19 at h
  unfold kj4_16
  generalize @J4_16 = Q4_16 at h ⊢
  unfold kj4_7
  generalize @J4_7 = Q4_7 at h ⊢
  refine code2_sound ok_mono _ _ _ ?_
  refine kmp ?_ h
  generalize Ok Tryd.prog = C
  try unfold en4
  as_aux_lemma => kernel_rfl
  refine seq_i (a := nd4 [1, 1, 1, 1, 1, 1, 1, 0, 1, 0, 0, 1, 0, 0, 1, 1, 0, 1, 1, 0]) (b := nd4 [1, 1, 1, 1, 1, 1, 1, 0, 1, 0, 0, 1, 0, 0, 1, 1, 0, 1, 1, 1]) (k' := kj4_20 R14 K) (by kernel_rfl) (fun st h => J4_20_ok R14 K st.tm st.g h) ?_
  try unfold J4_19 at h
  unfold kj4_20
  generalize @J4_20 = Q4_20 at h ⊢
  unfold kj4_16
  generalize @J4_16 = Q4_16 at h ⊢
  unfold kj4_7
  generalize @J4_7 = Q4_7 at h ⊢
  refine code2_sound ok_mono _ _ _ ?_
  refine kmp ?_ h
  generalize Ok Tryd.prog = C
  try unfold en4
  as_aux_lemma => kernel_rfl

noncomputable def J4_18 (x1 x5 x7 x9 x10 x11 x68 : LV) (g : LHeap) (N14 : LV → LHeap → Prop) (K : LV → LHeap → Prop) : Prop :=
  vK (binL Tryd.prog .eql 3 true x68 (.int .i64 (1))) fun t70 =>
  J4_19 x1 x5 x7 x9 x10 x11 x68 t70 g N14 K
abbrev kj4_18 (R14 : LV × LV × LV × LV → LV → LHeap → Prop) (K : LV → LHeap → Prop) : LSt → Prop := fun st => J4_18 (st.tm 1) (st.tm 5) (st.tm 7) (st.tm 9) (st.tm 10) (st.tm 11) (st.tm 68) st.g (fun s g => R14 ((st.tm 1), (st.tm 5), (st.tm 7), (st.tm 9)) s g) K
theorem J4_18_ok (R14 : LV × LV × LV × LV → LV → LHeap → Prop) (K : LV → LHeap → Prop) (tm : Nat → LV) (g : LHeap) (h : J4_18 (tm 1) (tm 5) (tm 7) (tm 9) (tm 10) (tm 11) (tm 68) g (fun s g => R14 ((tm 1), (tm 5), (tm 7), (tm 9)) s g) K) : codeL Tryd.prog (Ok Tryd.prog) (nd4 [1, 1, 1, 1, 1, 1, 1, 0, 1, 0, 0, 1, 0, 0, 1, 1]) ⟨tm, g⟩ (exitL 1 (thenL (kj4_16 R14 K) (roundK (fun tm : Nat → LV => (tm 1, tm 5, tm 7, tm 9)) (fun tm : Nat → LV => tm 10) R14 (exitL 0 (thenL (kj4_7  K) (en4 K)))))) := by
  refine block_i (b := nd4 [1, 1, 1, 1, 1, 1, 1, 0, 1, 0, 0, 1, 0, 0, 1, 1, 0]) (i := 2) (by kernel_rfl) ?_
  refine seq_i (a := nd4 [1, 1, 1, 1, 1, 1, 1, 0, 1, 0, 0, 1, 0, 0, 1, 1, 0, 0]) (b := nd4 [1, 1, 1, 1, 1, 1, 1, 0, 1, 0, 0, 1, 0, 0, 1, 1, 0, 1]) (k' := kj4_19 R14 K) (by kernel_rfl) (fun st h => J4_19_ok R14 K st.tm st.g h) ?_
  try unfold J4_18 at h
  unfold kj4_19
  generalize @J4_19 = Q4_19 at h ⊢
  unfold kj4_16
  generalize @J4_16 = Q4_16 at h ⊢
  unfold kj4_7
  generalize @J4_7 = Q4_7 at h ⊢
  refine code2_sound ok_mono _ _ _ ?_
  refine kmp ?_ h
  generalize Ok Tryd.prog = C
  try unfold en4
  as_aux_lemma => kernel_rfl

noncomputable def J4_17 (x1 x5 x7 x9 x10 x11 : LV) (g : LHeap) (N14 : LV → LHeap → Prop) (K : LV → LHeap → Prop) : Prop :=
  vK (fieldAddrL 0 x11) fun t67 =>
  vK (loadV none t67 g) fun t68 =>
  J4_18 x1 x5 x7 x9 x10 x11 t68 g N14 K
abbrev kj4_17 (R14 : LV × LV × LV × LV → LV → LHeap → Prop) (K : LV → LHeap → Prop) : LSt → Prop := fun st => J4_17 (st.tm 1) (st.tm 5) (st.tm 7) (st.tm 9) (st.tm 10) (st.tm 11) st.g (fun s g => R14 ((st.tm 1), (st.tm 5), (st.tm 7), (st.tm 9)) s g) K
theorem J4_17_ok (R14 : LV × LV × LV × LV → LV → LHeap → Prop) (K : LV → LHeap → Prop) (tm : Nat → LV) (g : LHeap) (h : J4_17 (tm 1) (tm 5) (tm 7) (tm 9) (tm 10) (tm 11) g (fun s g => R14 ((tm 1), (tm 5), (tm 7), (tm 9)) s g) K) : codeL Tryd.prog (Ok Tryd.prog) (nd4 [1, 1, 1, 1, 1, 1, 1, 0, 1, 0, 0, 1, 0, 0, 1]) ⟨tm, g⟩ (exitL 1 (thenL (kj4_16 R14 K) (roundK (fun tm : Nat → LV => (tm 1, tm 5, tm 7, tm 9)) (fun tm : Nat → LV => tm 10) R14 (exitL 0 (thenL (kj4_7  K) (en4 K)))))) := by
  refine seq_i (a := nd4 [1, 1, 1, 1, 1, 1, 1, 0, 1, 0, 0, 1, 0, 0, 1, 0]) (b := nd4 [1, 1, 1, 1, 1, 1, 1, 0, 1, 0, 0, 1, 0, 0, 1, 1]) (k' := kj4_18 R14 K) (by kernel_rfl) (fun st h => J4_18_ok R14 K st.tm st.g h) ?_
  try unfold J4_17 at h
  unfold kj4_18
  generalize @J4_18 = Q4_18 at h ⊢
  unfold kj4_16
  generalize @J4_16 = Q4_16 at h ⊢
  unfold kj4_7
  generalize @J4_7 = Q4_7 at h ⊢
  refine code2_sound ok_mono _ _ _ ?_
  refine kmp ?_ h
  generalize Ok Tryd.prog = C
  try unfold en4
  as_aux_lemma => kernel_rfl

noncomputable def J4_15 (x1 x5 x7 x9 x10 : LV) (g : LHeap) (N14 : LV → LHeap → Prop) (K : LV → LHeap → Prop) : Prop :=
  vK (ixAddrL none 4 x1 x10) fun t65 =>
  vK (loadV (some 4) t65 g) fun t66 =>
  oK (newL (.agg [(.int .i64 (0)), (.int .i64 (0)), (.str []), (.int .i64 (0))]) g) fun t11 g =>
  gK (storeV 4 t11 t66 g) fun g =>
  J4_17 x1 x5 x7 x9 x10 t11 g N14 K
abbrev kj4_15 (R14 : LV × LV × LV × LV → LV → LHeap → Prop) (K : LV → LHeap → Prop) : LSt → Prop := fun st => J4_15 (st.tm 1) (st.tm 5) (st.tm 7) (st.tm 9) (st.tm 10) st.g (fun s g => R14 ((st.tm 1), (st.tm 5), (st.tm 7), (st.tm 9)) s g) K
theorem J4_15_ok (R14 : LV × LV × LV × LV → LV → LHeap → Prop) (K : LV → LHeap → Prop) (tm : Nat → LV) (g : LHeap) (h : J4_15 (tm 1) (tm 5) (tm 7) (tm 9) (tm 10) g (fun s g => R14 ((tm 1), (tm 5), (tm 7), (tm 9)) s g) K) : codeL Tryd.prog (Ok Tryd.prog) (nd4 [1, 1, 1, 1, 1, 1, 1, 0, 1, 0, 0, 1]) ⟨tm, g⟩ (roundK (fun tm : Nat → LV => (tm 1, tm 5, tm 7, tm 9)) (fun tm : Nat → LV => tm 10) R14 (exitL 0 (thenL (kj4_7  K) (en4 K)))) := by
  refine seq_i (a := nd4 [1, 1, 1, 1, 1, 1, 1, 0, 1, 0, 0, 1, 0]) (b := nd4 [1, 1, 1, 1, 1, 1, 1, 0, 1, 0, 0, 1, 1]) (k' := kj4_16 R14 K) (by kernel_rfl) (fun st h => J4_16_ok R14 K st.tm st.g h) ?_
  refine block_i (b := nd4 [1, 1, 1, 1, 1, 1, 1, 0, 1, 0, 0, 1, 0, 0]) (i := 1) (by kernel_rfl) ?_
  refine seq_i (a := nd4 [1, 1, 1, 1, 1, 1, 1, 0, 1, 0, 0, 1, 0, 0, 0]) (b := nd4 [1, 1, 1, 1, 1, 1, 1, 0, 1, 0, 0, 1, 0, 0, 1]) (k' := kj4_17 R14 K) (by kernel_rfl) (fun st h => J4_17_ok R14 K st.tm st.g h) ?_
  try unfold J4_15 at h
  unfold kj4_17
  generalize @J4_17 = Q4_17 at h ⊢
  unfold kj4_16
  generalize @J4_16 = Q4_16 at h ⊢
  unfold kj4_7
  generalize @J4_7 = Q4_7 at h ⊢
  refine code2_sound ok_mono _ _ _ ?_
  refine kmp ?_ h
  generalize Ok Tryd.prog = C
  try unfold en4
  as_aux_lemma => kernel_rfl

noncomputable def L4_14 (x1 x5 x7 x9 : LV) (x10 : LV) (g : LHeap) (N14 : LV → LHeap → Prop) (K : LV → LHeap → Prop) : Prop :=
  oK (builtinL Tryd.prog .len [29] [x1] g) fun t59 g =>
  vK (binL Tryd.prog .lss 3 false x10 t59) fun t60 =>
  ifB t60 (
  J4_15 x1 x5 x7 x9 x10 g N14 K) (
  J4_7 x7 x9 g  K)
theorem L4_14_ok (R14 : LV × LV × LV × LV → LV → LHeap → Prop) (K : LV → LHeap → Prop) (tm : Nat → LV) (g : LHeap) (h : L4_14 (tm 1) (tm 5) (tm 7) (tm 9) (tm 10) g (fun s g => R14 ((tm 1), (tm 5), (tm 7), (tm 9)) s g) K) : codeL Tryd.prog (Ok Tryd.prog) (nd4 [1, 1, 1, 1, 1, 1, 1, 0, 1, 0, 0]) ⟨tm, g⟩ (roundK (fun tm : Nat → LV => (tm 1, tm 5, tm 7, tm 9)) (fun tm : Nat → LV => tm 10) R14 (exitL 0 (thenL (kj4_7  K) (en4 K)))) := by
  refine seq_i (a := nd4 [1, 1, 1, 1, 1, 1, 1, 0, 1, 0, 0, 0]) (b := nd4 [1, 1, 1, 1, 1, 1, 1, 0, 1, 0, 0, 1]) (k' := kj4_15 R14 K) (by kernel_rfl) (fun st h => J4_15_ok R14 K st.tm st.g h) ?_
  try unfold L4_14 at h
  unfold kj4_15
  generalize @J4_15 = Q4_15 at h ⊢
  unfold kj4_7
  generalize @J4_7 = Q4_7 at h ⊢
  refine code2_sound ok_mono _ _ _ ?_
  refine kmp ?_ h
  generalize Ok Tryd.prog = C
  try unfold en4
  as_aux_lemma => kernel_rfl

noncomputable def J4_13 (x1 x5 x7 x9 x10 : LV) (g : LHeap)  (K : LV → LHeap → Prop) : Prop :=
  loopP (fun s g N => L4_14 x1 x5 x7 x9 s g N  K) x10 g
abbrev kj4_13  (K : LV → LHeap → Prop) : LSt → Prop := fun st => J4_13 (st.tm 1) (st.tm 5) (st.tm 7) (st.tm 9) (st.tm 10) st.g  K
theorem J4_13_ok  (K : LV → LHeap → Prop) (tm : Nat → LV) (g : LHeap) (h : J4_13 (tm 1) (tm 5) (tm 7) (tm 9) (tm 10) g  K) : codeL Tryd.prog (Ok Tryd.prog) (nd4 [1, 1, 1, 1, 1, 1, 1, 0, 1]) ⟨tm, g⟩ (thenL (kj4_7  K) (en4 K)) := by
  refine block_i (b := nd4 [1, 1, 1, 1, 1, 1, 1, 0, 1, 0]) (i := 0) (by kernel_rfl) ?_
  exact loop_glue (b := nd4 [1, 1, 1, 1, 1, 1, 1, 0, 1, 0, 0]) (by kernel_rfl) (fun tm : Nat → LV => (tm 1, tm 5, tm 7, tm 9)) (fun tm : Nat → LV => tm 10) (fun a s g N => L4_14 a.1 a.2.1 a.2.2.1 a.2.2.2 s g N  K) (fun tm g R h => L4_14_ok R  K tm g h) tm g h

noncomputable def J4_6 (x1 x5 x7 x9 : LV) (g : LHeap)  (K : LV → LHeap → Prop) : Prop :=
  J4_13 x1 x5 x7 x9 (.int .i64 (0)) g  K
abbrev kj4_6  (K : LV → LHeap → Prop) : LSt → Prop := fun st => J4_6 (st.tm 1) (st.tm 5) (st.tm 7) (st.tm 9) st.g  K
theorem J4_6_ok  (K : LV → LHeap → Prop) (tm : Nat → LV) (g : LHeap) (h : J4_6 (tm 1) (tm 5) (tm 7) (tm 9) g  K) : codeL Tryd.prog (Ok Tryd.prog) (nd4 [1, 1, 1, 1, 1, 1, 1]) ⟨tm, g⟩ (en4 K) := by
  refine seq_i (a := nd4 [1, 1, 1, 1, 1, 1, 1, 0]) (b := nd4 [1, 1, 1, 1, 1, 1, 1, 1]) (k' := kj4_7  K) (by kernel_rfl) (fun st h => J4_7_ok  K st.tm st.g h) ?_
  refine seq_i (a := nd4 [1, 1, 1, 1, 1, 1, 1, 0, 0]) (b := nd4 [1, 1, 1, 1, 1, 1, 1, 0, 1]) (k' := kj4_13  K) (by kernel_rfl) (fun st h => J4_13_ok  K st.tm st.g h) ?_
  try unfold J4_6 at h
  unfold kj4_13
  generalize @J4_13 = Q4_13 at h ⊢
  unfold kj4_7
  generalize @J4_7 = Q4_7 at h ⊢
  refine code2_sound ok_mono _ _ _ ?_
  refine kmp ?_ h
  generalize Ok Tryd.prog = C
  try unfold en4
  as_aux_lemma => kernel_rfl

noncomputable def J4_5 (x0 x1 x5 x7 : LV) (g : LHeap)  (K : LV → LHeap → Prop) : Prop :=
  vK (buildL Tryd.prog 40 [(0, x0)]) fun t55 =>
  oK (newL t55 g) fun t56 g =>
  J4_6 x1 x5 x7 t56 g  K
abbrev kj4_5  (K : LV → LHeap → Prop) : LSt → Prop := fun st => J4_5 (st.tm 0) (st.tm 1) (st.tm 5) (st.tm 7) st.g  K
theorem J4_5_ok  (K : LV → LHeap → Prop) (tm : Nat → LV) (g : LHeap) (h : J4_5 (tm 0) (tm 1) (tm 5) (tm 7) g  K) : codeL Tryd.prog (Ok Tryd.prog) (nd4 [1, 1, 1, 1, 1, 1]) ⟨tm, g⟩ (en4 K) := by
  refine seq_i (a := nd4 [1, 1, 1, 1, 1, 1, 0]) (b := nd4 [1, 1, 1, 1, 1, 1, 1]) (k' := kj4_6  K) (by kernel_rfl) (fun st h => J4_6_ok  K st.tm st.g h) ?_
  try unfold J4_5 at h
  unfold kj4_6
  generalize @J4_6 = Q4_6 at h ⊢
  refine code2_sound ok_mono _ _ _ ?_
  refine kmp ?_ h
  generalize Ok Tryd.prog = C
  try unfold en4
  as_aux_lemma => kernel_rfl

noncomputable def J4_4 (x0 x1 x5 x7 x8 : LV) (g : LHeap)  (K : LV → LHeap → Prop) : Prop :=
  vK (binL Tryd.prog .neq 23 true x8 (.int .i64 (0))) fun t49 =>
  gd t49 false g (fun K => K x7 g) fun t51 g =>
  gd t49 false g (fun K => vK (binL Tryd.prog .eql 33 true t51 .nilp) fun v => K v g) fun t52 g =>
  vK (pickL t49 (.bool true) t52) fun t53 =>
  ifB t53 (
  K (.bool false) g) (
  J4_5 x0 x1 x5 x7 g  K)
abbrev kj4_4  (K : LV → LHeap → Prop) : LSt → Prop := fun st => J4_4 (st.tm 0) (st.tm 1) (st.tm 5) (st.tm 7) (st.tm 8) st.g  K
theorem J4_4_ok  (K : LV → LHeap → Prop) (tm : Nat → LV) (g : LHeap) (h : J4_4 (tm 0) (tm 1) (tm 5) (tm 7) (tm 8) g  K) : codeL Tryd.prog (Ok Tryd.prog) (nd4 [1, 1, 1, 1, 1]) ⟨tm, g⟩ (en4 K) := by
  refine seq_i (a := nd4 [1, 1, 1, 1, 1, 0]) (b := nd4 [1, 1, 1, 1, 1, 1]) (k' := kj4_5  K) (by kernel_rfl) (fun st h => J4_5_ok  K st.tm st.g h) ?_
  try unfold J4_4 at h
  unfold kj4_5
  generalize @J4_5 = Q4_5 at h ⊢
  refine code2_sound ok_mono _ _ _ ?_
  refine kmp ?_ h
  generalize Ok Tryd.prog = C
  try unfold en4
  as_aux_lemma => kernel_rfl

noncomputable def J4_3 (x0 x1 x5 x7 x8 : LV) (g : LHeap)  (K : LV → LHeap → Prop) : Prop :=
  vK (binL Tryd.prog .lss 3 true x0 (.int .i64 (1))) fun t37 =>
  gd t37 false g (fun K => K x0 g) fun t39 g =>
  gd t37 false g (fun K => vK (binL Tryd.prog .gtr 3 true t39 (.int .i64 (4096))) fun v => K v g) fun t40 g =>
  vK (pickL t37 (.bool true) t40) fun t41 =>
  ifB t41 (
  vK (binL Tryd.prog .eql 33 true x7 .nilp) fun t43 =>
  gd t43 true g (fun K => K x8 g) fun t45 g =>
  gd t43 true g (fun K => vK (binL Tryd.prog .eql 23 true t45 (.int .i64 (1))) fun v => K v g) fun t46 g =>
  vK (pickL t43 t46 (.bool false)) fun t47 =>
  K t47 g) (
  J4_4 x0 x1 x5 x7 x8 g  K)
abbrev kj4_3  (K : LV → LHeap → Prop) : LSt → Prop := fun st => J4_3 (st.tm 0) (st.tm 1) (st.tm 5) (st.tm 7) (st.tm 8) st.g  K
theorem J4_3_ok  (K : LV → LHeap → Prop) (tm : Nat → LV) (g : LHeap) (h : J4_3 (tm 0) (tm 1) (tm 5) (tm 7) (tm 8) g  K) : codeL Tryd.prog (Ok Tryd.prog) (nd4 [1, 1, 1, 1]) ⟨tm, g⟩ (en4 K) := by
  refine seq_i (a := nd4 [1, 1, 1, 1, 0]) (b := nd4 [1, 1, 1, 1, 1]) (k' := kj4_4  K) (by kernel_rfl) (fun st h => J4_4_ok  K st.tm st.g h) ?_
  try unfold J4_3 at h
  unfold kj4_4
  generalize @J4_4 = Q4_4 at h ⊢
  refine code2_sound ok_mono _ _ _ ?_
  refine kmp ?_ h
  generalize Ok Tryd.prog = C
  try unfold en4
  as_aux_lemma => kernel_rfl

noncomputable def J4_2 (x0 x1 x5 x7 x8 : LV) (g : LHeap)  (K : LV → LHeap → Prop) : Prop :=
  Ok Tryd.prog 13 [] g fun t30 g =>
  vK (unL .not t30) fun t31 =>
  gd t31 false g (fun K => K x5 g) fun t33 g =>
  gd t31 false g (fun K => vK (binL Tryd.prog .eql 30 true t33 .nilp) fun v => K v g) fun t34 g =>
  vK (pickL t31 (.bool true) t34) fun t35 =>
  ifB t35 (
  K (.bool false) g) (
  J4_3 x0 x1 x5 x7 x8 g  K)
abbrev kj4_2  (K : LV → LHeap → Prop) : LSt → Prop := fun st => J4_2 (st.tm 0) (st.tm 1) (st.tm 5) (st.tm 7) (st.tm 8) st.g  K
theorem J4_2_ok  (K : LV → LHeap → Prop) (tm : Nat → LV) (g : LHeap) (h : J4_2 (tm 0) (tm 1) (tm 5) (tm 7) (tm 8) g  K) : codeL Tryd.prog (Ok Tryd.prog) (nd4 [1, 1, 1]) ⟨tm, g⟩ (en4 K) := by
  refine seq_i (a := nd4 [1, 1, 1, 0]) (b := nd4 [1, 1, 1, 1]) (k' := kj4_3  K) (by kernel_rfl) (fun st h => J4_3_ok  K st.tm st.g h) ?_
  try unfold J4_2 at h
  unfold kj4_3
  generalize @J4_3 = Q4_3 at h ⊢
  refine code2_sound ok_mono _ _ _ ?_
  refine kmp ?_ h
  generalize Ok Tryd.prog = C
  try unfold en4
  as_aux_lemma => kernel_rfl

noncomputable def J4_1 (x0 x1 x5 : LV) (g : LHeap)  (K : LV → LHeap → Prop) : Prop :=
  Ok Tryd.prog 16 [x5, x0] g fun t27 g =>
  vK (extractL t27 0) fun t28 =>
  vK (extractL t27 1) fun t29 =>
  J4_2 x0 x1 x5 t28 t29 g  K
abbrev kj4_1  (K : LV → LHeap → Prop) : LSt → Prop := fun st => J4_1 (st.tm 0) (st.tm 1) (st.tm 5) st.g  K
theorem J4_1_ok  (K : LV → LHeap → Prop) (tm : Nat → LV) (g : LHeap) (h : J4_1 (tm 0) (tm 1) (tm 5) g  K) : codeL Tryd.prog (Ok Tryd.prog) (nd4 [1, 1]) ⟨tm, g⟩ (en4 K) := by
  refine seq_i (a := nd4 [1, 1, 0]) (b := nd4 [1, 1, 1]) (k' := kj4_2  K) (by kernel_rfl) (fun st h => J4_2_ok  K st.tm st.g h) ?_
  try unfold J4_1 at h
  unfold kj4_2
  generalize @J4_2 = Q4_2 at h ⊢
  refine code2_sound ok_mono _ _ _ ?_
  refine kmp ?_ h
  generalize Ok Tryd.prog = C
  try unfold en4
  as_aux_lemma => kernel_rfl

noncomputable def J4_0 (x0 x1 : LV) (g : LHeap)  (K : LV → LHeap → Prop) : Prop :=
  Ok Tryd.prog 15 [(.int .i64 (1))] g fun t21 g =>
  vK (extractL t21 0) fun t22 =>
  vK (extractL t21 1) fun t23 =>
  J4_1 x0 x1 t22 g  K
abbrev kj4_0  (K : LV → LHeap → Prop) : LSt → Prop := fun st => J4_0 (st.tm 0) (st.tm 1) st.g  K
theorem J4_0_ok  (K : LV → LHeap → Prop) (tm : Nat → LV) (g : LHeap) (h : J4_0 (tm 0) (tm 1) g  K) : codeL Tryd.prog (Ok Tryd.prog) (nd4 [1]) ⟨tm, g⟩ (en4 K) := by
  refine seq_i (a := nd4 [1, 0]) (b := nd4 [1, 1]) (k' := kj4_1  K) (by kernel_rfl) (fun st h => J4_1_ok  K st.tm st.g h) ?_
  try unfold J4_0 at h
  unfold kj4_1
  generalize @J4_1 = Q4_1 at h ⊢
  refine code2_sound ok_mono _ _ _ ?_
  refine kmp ?_ h
  generalize Ok Tryd.prog = C
  try unfold en4
  as_aux_lemma => kernel_rfl

noncomputable def F4 (x0 x1 : LV) (g : LHeap) (K : LV → LHeap → Prop) : Prop :=
  J4_0 x0 x1 g  K
theorem ok4 {x0 x1 : LV} {g : LHeap} {K : LV → LHeap → Prop} (h : g.Wf → (∀ v ∈ ([x0, x1] : List LV), ∀ b ∈ v.objs, b < g.next) → F4 x0 x1 g K) : Ok Tryd.prog 4 [x0, x1] g K := by
  refine ok_fw Tryd.mixed Tryd.func4 (by kernel_rfl) (by kernel_rfl) (c := nd4 []) (by kernel_rfl) fun wf lt => ?_
  rw [← en4_eq]
  replace h := h wf lt
  generalize hs : startL _ = tm
  replace h : F4 (tm 0) (tm 1) g K := by rw [← hs]; exact h
  refine seq_i (a := nd4 [0]) (b := nd4 [1]) (k' := kj4_0  K) (by kernel_rfl) (fun st h => J4_0_ok  K st.tm st.g h) ?_
  try unfold F4 at h
  unfold kj4_0
  generalize @J4_0 = Q4_0 at h ⊢
  refine code2_sound ok_mono _ _ _ ?_
  refine kmp ?_ h
  generalize Ok Tryd.prog = C
  try unfold en4
  as_aux_lemma => kernel_rfl

/-! parapet/rcu.New (34 slots) -/
noncomputable def en15 (K : LV → LHeap → Prop) : LEx → LSt → Prop := fun e st => match e with
  | .exit _ => False
  | _ => K (.tuple [(st.tm 2), (st.tm 3)]) st.g
theorem en15_eq (K : LV → LHeap → Prop) : en15 K = endL Tryd.prog Tryd.f15 K := by
  funext e st
  cases e <;> kernel_rfl
noncomputable def nd15 (p : List Nat) : Code := subC p (bodyC Tryd.prog 15)
noncomputable def J15_3 (x4 : LV) (g : LHeap)  (K : LV → LHeap → Prop) : Prop :=
  K (.tuple [x4, (.int .i64 (0))]) g
abbrev kj15_3  (K : LV → LHeap → Prop) : LSt → Prop := fun st => J15_3 (st.tm 4) st.g  K
theorem J15_3_ok  (K : LV → LHeap → Prop) (tm : Nat → LV) (g : LHeap) (h : J15_3 (tm 4) g  K) : codeL Tryd.prog (Ok Tryd.prog) (nd15 [1, 1, 1, 1]) ⟨tm, g⟩ (en15 K) := by
  try unfold J15_3 at h
  refine code2_sound ok_mono _ _ _ ?_
  refine kmp ?_ h
  generalize Ok Tryd.prog = C
  try unfold en15
  as_aux_lemma => kernel_rfl

noncomputable def L15_5 (x4 x22 : LV) (x23 : LV) (g : LHeap) (N5 : LV → LHeap → Prop) (K : LV → LHeap → Prop) : Prop :=
  vK (binL Tryd.prog .lss 3 false x23 x22) fun t24 =>
  ifB t24 (
  vK (nilCheckL x4) fun t27 =>
  vK (fieldAddrL 1 t27) fun t28 =>
  vK (loadV none t28 g) fun t29 =>
  vK (ixAddrL none 1 t29 x23) fun t31 =>
  gK (storeV 1 t31 (.bool true) g) fun g =>
  vK (binL Tryd.prog .add 3 true x23 (.int .i64 (1))) fun t32 =>
  N5 t32 g) (
  J15_3 x4 g  K)
theorem L15_5_ok (R5 : LV × LV → LV → LHeap → Prop) (K : LV → LHeap → Prop) (tm : Nat → LV) (g : LHeap) (h : L15_5 (tm 4) (tm 22) (tm 23) g (fun s g => R5 ((tm 4), (tm 22)) s g) K) : codeL Tryd.prog (Ok Tryd.prog) (nd15 [1, 1, 1, 0, 1, 0, 0]) ⟨tm, g⟩ (roundK (fun tm : Nat → LV => (tm 4, tm 22)) (fun tm : Nat → LV => tm 23) R5 (exitL 0 (thenL (kj15_3  K) (en15 K)))) := by
  try unfold L15_5 at h
  unfold kj15_3
  generalize @J15_3 = Q15_3 at h ⊢
  refine code2_sound ok_mono _ _ _ ?_
  refine kmp ?_ h
  generalize Ok Tryd.prog = C
  try unfold en15
  as_aux_lemma => kernel_rfl

noncomputable def J15_4 (x4 x22 x23 : LV) (g : LHeap)  (K : LV → LHeap → Prop) : Prop :=
  loopP (fun s g N => L15_5 x4 x22 s g N  K) x23 g
abbrev kj15_4  (K : LV → LHeap → Prop) : LSt → Prop := fun st => J15_4 (st.tm 4) (st.tm 22) (st.tm 23) st.g  K
theorem J15_4_ok  (K : LV → LHeap → Prop) (tm : Nat → LV) (g : LHeap) (h : J15_4 (tm 4) (tm 22) (tm 23) g  K) : codeL Tryd.prog (Ok Tryd.prog) (nd15 [1, 1, 1, 0, 1]) ⟨tm, g⟩ (thenL (kj15_3  K) (en15 K)) := by
  refine block_i (b := nd15 [1, 1, 1, 0, 1, 0]) (i := 0) (by kernel_rfl) ?_
  exact loop_glue (b := nd15 [1, 1, 1, 0, 1, 0, 0]) (by kernel_rfl) (fun tm : Nat → LV => (tm 4, tm 22)) (fun tm : Nat → LV => tm 23) (fun a s g N => L15_5 a.1 a.2 s g N  K) (fun tm g R h => L15_5_ok R  K tm g h) tm g h

noncomputable def J15_2 (x4 : LV) (g : LHeap)  (K : LV → LHeap → Prop) : Prop :=
  vK (nilCheckL x4) fun t19 =>
  vK (fieldAddrL 1 t19) fun t20 =>
  vK (loadV none t20 g) fun t21 =>
  oK (builtinL Tryd.prog .len [106] [t21] g) fun t22 g =>
  J15_4 x4 t22 (.int .i64 (0)) g  K
abbrev kj15_2  (K : LV → LHeap → Prop) : LSt → Prop := fun st => J15_2 (st.tm 4) st.g  K
theorem J15_2_ok  (K : LV → LHeap → Prop) (tm : Nat → LV) (g : LHeap) (h : J15_2 (tm 4) g  K) : codeL Tryd.prog (Ok Tryd.prog) (nd15 [1, 1, 1]) ⟨tm, g⟩ (en15 K) := by
  refine seq_i (a := nd15 [1, 1, 1, 0]) (b := nd15 [1, 1, 1, 1]) (k' := kj15_3  K) (by kernel_rfl) (fun st h => J15_3_ok  K st.tm st.g h) ?_
  refine seq_i (a := nd15 [1, 1, 1, 0, 0]) (b := nd15 [1, 1, 1, 0, 1]) (k' := kj15_4  K) (by kernel_rfl) (fun st h => J15_4_ok  K st.tm st.g h) ?_
  try unfold J15_2 at h
  unfold kj15_4
  generalize @J15_4 = Q15_4 at h ⊢
  unfold kj15_3
  generalize @J15_3 = Q15_3 at h ⊢
  refine code2_sound ok_mono _ _ _ ?_
  refine kmp ?_ h
  generalize Ok Tryd.prog = C
  try unfold en15
  as_aux_lemma => kernel_rfl

noncomputable def J15_1 (x0 : LV) (g : LHeap)  (K : LV → LHeap → Prop) : Prop :=
  ((oK (makeSliceL Tryd.prog 38 x0 x0 g) fun t13 g =>
  
  ((oK (makeSliceL Tryd.prog 106 x0 x0 g) fun t15 g =>
  
  vK (buildL Tryd.prog 109 [(0, t13), (1, t15)]) fun t16 =>
  ((oK (newL t16 g) fun t17 g =>
  
  J15_2 t17 g  K) ∧ True)) ∧ True)) ∧ ((oK (makeSliceL Tryd.prog 106 x0 x0 g) fun t15 g =>
  
  ((oK (makeSliceL Tryd.prog 38 x0 x0 g) fun t13 g =>
  
  vK (buildL Tryd.prog 109 [(0, t13), (1, t15)]) fun t16 =>
  ((oK (newL t16 g) fun t17 g =>
  
  J15_2 t17 g  K) ∧ True)) ∧ True)) ∧ True))
abbrev kj15_1  (K : LV → LHeap → Prop) : LSt → Prop := fun st => J15_1 (st.tm 0) st.g  K
theorem J15_1_ok  (K : LV → LHeap → Prop) (tm : Nat → LV) (g : LHeap) (h : J15_1 (tm 0) g  K) : codeL Tryd.prog (Ok Tryd.prog) (nd15 [1, 1]) ⟨tm, g⟩ (en15 K) := by
  refine seq_i (a := nd15 [1, 1, 0]) (b := nd15 [1, 1, 1]) (k' := kj15_2  K) (by kernel_rfl) (fun st h => J15_2_ok  K st.tm st.g h) ?_
  try unfold J15_1 at h
  unfold kj15_2
  generalize @J15_2 = Q15_2 at h ⊢
  refine code2_sound ok_mono _ _ _ ?_
  refine kmp ?_ h
  generalize Ok Tryd.prog = C
  try unfold en15
  as_aux_lemma => kernel_rfl

noncomputable def J15_0 (x0 : LV) (g : LHeap)  (K : LV → LHeap → Prop) : Prop :=
  vK (binL Tryd.prog .lss 3 true x0 (.int .i64 (1))) fun t7 =>
  gd t7 false g (fun K => K x0 g) fun t9 g =>
  gd t7 false g (fun K => vK (binL Tryd.prog .gtr 3 true t9 (.int .i64 (8))) fun v => K v g) fun t10 g =>
  vK (pickL t7 (.bool true) t10) fun t11 =>
  ifB t11 (
  K (.tuple [.nilp, (.int .i64 (1))]) g) (
  J15_1 x0 g  K)
abbrev kj15_0  (K : LV → LHeap → Prop) : LSt → Prop := fun st => J15_0 (st.tm 0) st.g  K
theorem J15_0_ok  (K : LV → LHeap → Prop) (tm : Nat → LV) (g : LHeap) (h : J15_0 (tm 0) g  K) : codeL Tryd.prog (Ok Tryd.prog) (nd15 [1]) ⟨tm, g⟩ (en15 K) := by
  refine seq_i (a := nd15 [1, 0]) (b := nd15 [1, 1]) (k' := kj15_1  K) (by kernel_rfl) (fun st h => J15_1_ok  K st.tm st.g h) ?_
  try unfold J15_0 at h
  unfold kj15_1
  generalize @J15_1 = Q15_1 at h ⊢
  refine code2_sound ok_mono _ _ _ ?_
  refine kmp ?_ h
  generalize Ok Tryd.prog = C
  try unfold en15
  as_aux_lemma => kernel_rfl

noncomputable def F15 (x0 : LV) (g : LHeap) (K : LV → LHeap → Prop) : Prop :=
  J15_0 x0 g  K
theorem ok15 {x0 : LV} {g : LHeap} {K : LV → LHeap → Prop} (h : g.Wf → (∀ v ∈ ([x0] : List LV), ∀ b ∈ v.objs, b < g.next) → F15 x0 g K) : Ok Tryd.prog 15 [x0] g K := by
  refine ok_fw Tryd.mixed Tryd.func15 (by kernel_rfl) (by kernel_rfl) (c := nd15 []) (by kernel_rfl) fun wf lt => ?_
  rw [← en15_eq]
  replace h := h wf lt
  generalize hs : startL _ = tm
  replace h : F15 (tm 0) g K := by rw [← hs]; exact h
  refine seq_i (a := nd15 [0]) (b := nd15 [1]) (k' := kj15_0  K) (by kernel_rfl) (fun st h => J15_0_ok  K st.tm st.g h) ?_
  try unfold F15 at h
  unfold kj15_0
  generalize @J15_0 = Q15_0 at h ⊢
  refine code2_sound ok_mono _ _ _ ?_
  refine kmp ?_ h
  generalize Ok Tryd.prog = C
  try unfold en15
  as_aux_lemma => kernel_rfl

/-! parapet/namec.New (21 slots) -/
noncomputable def en16 (K : LV → LHeap → Prop) : LEx → LSt → Prop := fun e st => match e with
  | .exit _ => False
  | _ => K (.tuple [(st.tm 4), (st.tm 5)]) st.g
theorem en16_eq (K : LV → LHeap → Prop) : en16 K = endL Tryd.prog Tryd.f16 K := by
  funext e st
  cases e <;> kernel_rfl
noncomputable def nd16 (p : List Nat) : Code := subC p (bodyC Tryd.prog 16)
noncomputable def F16 (x0 x1 : LV) (g : LHeap) (K : LV → LHeap → Prop) : Prop :=
  vK (binL Tryd.prog .eql 30 true x0 .nilp) fun t7 =>
  gd t7 false g (fun K => K x1 g) fun t9 g =>
  gd t7 false g (fun K => vK (binL Tryd.prog .lss 3 true t9 (.int .i64 (1))) fun v => K v g) fun t10 g =>
  vK (pickL t7 (.bool true) t10) fun t11 =>
  gd t11 false g (fun K => K x1 g) fun t13 g =>
  gd t11 false g (fun K => vK (binL Tryd.prog .gtr 3 true t13 (.int .i64 (4096))) fun v => K v g) fun t14 g =>
  vK (pickL t11 (.bool true) t14) fun t15 =>
  ifB t15 (
  K (.tuple [.nilp, (.int .i64 (1))]) g) (
  mkK (.map g.next) (g.alloc (.map [] 0 .ex)) fun t18 g =>
  vK (buildL Tryd.prog 112 [(0, x0), (1, x1), (2, t18)]) fun t19 =>
  oK (newL t19 g) fun t20 g =>
  K (.tuple [t20, (.int .i64 (0))]) g)
theorem ok16 {x0 x1 : LV} {g : LHeap} {K : LV → LHeap → Prop} (h : g.Wf → (∀ v ∈ ([x0, x1] : List LV), ∀ b ∈ v.objs, b < g.next) → F16 x0 x1 g K) : Ok Tryd.prog 16 [x0, x1] g K := by
  refine ok_fw Tryd.mixed Tryd.func16 (by kernel_rfl) (by kernel_rfl) (c := nd16 []) (by kernel_rfl) fun wf lt => ?_
  rw [← en16_eq]
  replace h := h wf lt
  generalize hs : startL _ = tm
  replace h : F16 (tm 0) (tm 1) g K := by rw [← hs]; exact h
  try unfold F16 at h
  refine code2_sound ok_mono _ _ _ ?_
  refine kmp ?_ h
  generalize Ok Tryd.prog = C
  try unfold en16
  as_aux_lemma => kernel_rfl

/-! (*parapet/namec.Cache).Look (23 slots) -/
noncomputable def en17 (K : LV → LHeap → Prop) : LEx → LSt → Prop := fun e st => match e with
  | .exit _ => False
  | _ => K (.tuple [(st.tm 4), (st.tm 5)]) st.g
theorem en17_eq (K : LV → LHeap → Prop) : en17 K = endL Tryd.prog Tryd.f17 K := by
  funext e st
  cases e <;> kernel_rfl
noncomputable def nd17 (p : List Nat) : Code := subC p (bodyC Tryd.prog 17)
noncomputable def F17 (x0 x1 : LV) (g : LHeap) (K : LV → LHeap → Prop) : Prop :=
  oK (newL x1 g) fun t3 g =>
  Ok Tryd.prog 55 [x0] g fun t9 g =>
  vK (unL .not t9) fun t10 =>
  ifB t10 (
  K (.tuple [(.int .i64 (0)), (.bool false)]) g) (
  vK (nilCheckL x0) fun t13 =>
  vK (fieldAddrL 2 t13) fun t14 =>
  vK (loadV none t14 g) fun t15 =>
  vK (loadV (some 2) t3 g) fun t16 =>
  vK (lookupL Tryd.prog 110 t15 t16 true g) fun t17 =>
  vK (extractL t17 0) fun t18 =>
  vK (extractL t17 1) fun t19 =>
  ((oK (newL (.agg [(.int .i64 (0)), (.int .i64 (0))]) g) fun t6 g =>
  ((lookupL Tryd.prog 110 t15 t16 true g) = some t17 ∧ ((loadV (some 2) t3 g) = some t16 ∧ ((loadV none t14 g) = some t15 ∧ 
  ((gK (storeV 2 t6 t18 g) fun g =>
  
  vK (fieldAddrL 0 t6) fun t20 =>
  vK (loadV none t20 g) fun t21 =>
  K (.tuple [t21, t19]) g) ∧ True))))) ∧ True))
theorem ok17 {x0 x1 : LV} {g : LHeap} {K : LV → LHeap → Prop} (h : g.Wf → (∀ v ∈ ([x0, x1] : List LV), ∀ b ∈ v.objs, b < g.next) → F17 x0 x1 g K) : Ok Tryd.prog 17 [x0, x1] g K := by
  refine ok_fw Tryd.mixed Tryd.func17 (by kernel_rfl) (by kernel_rfl) (c := nd17 []) (by kernel_rfl) fun wf lt => ?_
  rw [← en17_eq]
  replace h := h wf lt
  generalize hs : startL _ = tm
  replace h : F17 (tm 0) (tm 1) g K := by rw [← hs]; exact h
  try unfold F17 at h
  refine code2_sound ok_mono _ _ _ ?_
  refine kmp ?_ h
  generalize Ok Tryd.prog = C
  try unfold en17
  as_aux_lemma => kernel_rfl

/-! (*parapet/parapetref19.Cache).Look (20 slots) -/
noncomputable def en18 (K : LV → LHeap → Prop) : LEx → LSt → Prop := fun e st => match e with
  | .exit _ => False
  | _ => K (.tuple [(st.tm 4), (st.tm 5)]) st.g
theorem en18_eq (K : LV → LHeap → Prop) : en18 K = endL Tryd.prog Tryd.f18 K := by
  funext e st
  cases e <;> kernel_rfl
noncomputable def nd18 (p : List Nat) : Code := subC p (bodyC Tryd.prog 18)
noncomputable def F18 (x0 x1 : LV) (g : LHeap) (K : LV → LHeap → Prop) : Prop :=
  oK (newL x1 g) fun t3 g =>
  vK (loadV (some 2) t3 g) fun t8 =>
  Ok Tryd.prog 56 [x0, t8] g fun t9 g =>
  vK (binL Tryd.prog .lss 3 true t9 (.int .i64 (0))) fun t11 =>
  ifB t11 (
  K (.tuple [(.int .i64 (0)), (.bool false)]) g) (
  vK (nilCheckL x0) fun t13 =>
  vK (fieldAddrL 1 t13) fun t14 =>
  vK (loadV none t14 g) fun t15 =>
  vK (ixAddrL none 4 t15 t9) fun t17 =>
  vK (fieldAddrL 2 t17) fun t18 =>
  vK (loadV none t18 g) fun t19 =>
  K (.tuple [t19, (.bool true)]) g)
theorem ok18 {x0 x1 : LV} {g : LHeap} {K : LV → LHeap → Prop} (h : g.Wf → (∀ v ∈ ([x0, x1] : List LV), ∀ b ∈ v.objs, b < g.next) → F18 x0 x1 g K) : Ok Tryd.prog 18 [x0, x1] g K := by
  refine ok_fw Tryd.mixed Tryd.func18 (by kernel_rfl) (by kernel_rfl) (c := nd18 []) (by kernel_rfl) fun wf lt => ?_
  rw [← en18_eq]
  replace h := h wf lt
  generalize hs : startL _ = tm
  replace h : F18 (tm 0) (tm 1) g K := by rw [← hs]; exact h
  try unfold F18 at h
  refine code2_sound ok_mono _ _ _ ?_
  refine kmp ?_ h
  generalize Ok Tryd.prog = C
  try unfold en18
  as_aux_lemma => kernel_rfl

/-! (*parapet/namec.Cache).Put (64 slots) -/
noncomputable def en19 (K : LV → LHeap → Prop) : LEx → LSt → Prop := fun e st => match e with
  | .exit _ => False
  | _ => K (st.tm 6) st.g
theorem en19_eq (K : LV → LHeap → Prop) : en19 K = endL Tryd.prog Tryd.f19 K := by
  funext e st
  cases e <;> kernel_rfl
noncomputable def nd19 (p : List Nat) : Code := subC p (bodyC Tryd.prog 19)
noncomputable def J19_3 (x0 x2 x4 : LV) (g : LHeap)  (K : LV → LHeap → Prop) : Prop :=
  vK (nilCheckL x0) fun t37 =>
  vK (fieldAddrL 4 t37) fun t38 =>
  vK (loadV none t38 g) fun t39 =>
  vK (binL Tryd.prog .add 3 true t39 (.int .i64 (1))) fun t40 =>
  vK (nilCheckL x0) fun t41 =>
  vK (fieldAddrL 4 t41) fun t42 =>
  gK (storeV 1 t42 t40 g) fun g =>
  vK (nilCheckL x0) fun t44 =>
  vK (fieldAddrL 2 t44) fun t45 =>
  vK (loadV none t45 g) fun t46 =>
  vK (loadV (some 2) x4 g) fun t47 =>
  vK (nilCheckL x0) fun t50 =>
  vK (fieldAddrL 4 t50) fun t51 =>
  vK (loadV none t51 g) fun t52 =>
  vK (buildL Tryd.prog 114 [(0, x2), (1, t52)]) fun t53 =>
  ((gK (mapSetL Tryd.prog 110 t46 t47 t53 g) fun g =>
  
  vK (nilCheckL x0) fun t56 =>
  vK (fieldAddrL 3 t56) fun t57 =>
  vK (loadV none t57 g) fun t58 =>
  vK (loadV (some 2) x4 g) fun t59 =>
  ((oK (buildSliceL Tryd.prog 51 1 [(0, t59)] g) fun t60 g =>
  ((loadV none t57 g) = some t58 ∧ 
  ((oK (builtinL Tryd.prog .append [51, 51] [t58, t60] g) fun t61 g =>
  
  vK (nilCheckL x0) fun t62 =>
  vK (fieldAddrL 3 t62) fun t63 =>
  ((gK (storeV 1 t63 t61 g) fun g =>
  
  K (.int .i64 (0)) g) ∧ True)) ∧ True))) ∧ True)) ∧ True)
abbrev kj19_3  (K : LV → LHeap → Prop) : LSt → Prop := fun st => J19_3 (st.tm 0) (st.tm 2) (st.tm 4) st.g  K
theorem J19_3_ok  (K : LV → LHeap → Prop) (tm : Nat → LV) (g : LHeap) (h : J19_3 (tm 0) (tm 2) (tm 4) g  K) : codeL Tryd.prog (Ok Tryd.prog) (nd19 [1, 1, 1, 1]) ⟨tm, g⟩ (en19 K) := by
  try unfold J19_3 at h
  refine code2_sound ok_mono _ _ _ ?_
  refine kmp ?_ h
  generalize Ok Tryd.prog = C
  try unfold en19
  as_aux_lemma => kernel_rfl

noncomputable def J19_4 (x0 x2 x4 x27 : LV) (g : LHeap)  (K : LV → LHeap → Prop) : Prop :=
  ifB x27 (
  vK (nilCheckL x0) fun t30 =>
  vK (fieldAddrL 3 t30) fun t31 =>
  vK (loadV none t31 g) fun t32 =>
  vK (ixAddrL none 2 t32 (.int .i64 (0))) fun t33 =>
  vK (loadV (some 2) t33 g) fun t34 =>
  Ok Tryd.prog 21 [x0, t34] g fun t35 g =>
  J19_3 x0 x2 x4 g  K) (
  J19_3 x0 x2 x4 g  K)
abbrev kj19_4  (K : LV → LHeap → Prop) : LSt → Prop := fun st => J19_4 (st.tm 0) (st.tm 2) (st.tm 4) (st.tm 27) st.g  K
theorem J19_4_ok  (K : LV → LHeap → Prop) (tm : Nat → LV) (g : LHeap) (h : J19_4 (tm 0) (tm 2) (tm 4) (tm 27) g  K) : codeL Tryd.prog (Ok Tryd.prog) (nd19 [1, 1, 1, 0, 1]) ⟨tm, g⟩ (thenL (kj19_3  K) (en19 K)) := by
  try unfold J19_4 at h
  unfold kj19_3
  generalize @J19_3 = Q19_3 at h ⊢
  refine code2_sound ok_mono _ _ _ ?_
  refine kmp ?_ h
  generalize Ok Tryd.prog = C
  try unfold en19
  as_aux_lemma => kernel_rfl

noncomputable def J19_2 (x0 x2 x4 : LV) (g : LHeap)  (K : LV → LHeap → Prop) : Prop :=
  vK (loadV (some 2) x4 g) fun t13 =>
  ((Ok Tryd.prog 21 [x0, t13] g fun t14 g =>
  
  vK (unL .not t14) fun t15 =>
  gdV t15 true (some x0) fun t17 =>
  gdV t15 true (nilCheckL t17) fun t18 =>
  gdV t15 true (fieldAddrL 3 t18) fun t19 =>
  gdD t15 true (loadV none t19 g) (fun t20 =>
  gdV t15 true (lenL Tryd.prog 51 t20 g) fun t21 =>
  gdV t15 true (some x0) fun t22 =>
  gdV t15 true (nilCheckL t22) fun t23 =>
  gdV t15 true (fieldAddrL 1 t23) fun t24 =>
  gdD t15 true (loadV none t24 g) (fun t25 =>
  gdV t15 true (binL Tryd.prog .geq 3 false t21 t25) fun t26 =>
  vK (pickL t15 t26 (.bool false)) fun t27 =>
  J19_4 x0 x2 x4 t27 g  K) (
  gdV t15 true (binL Tryd.prog .geq 3 false t21 undefL) fun t26 =>
  vK (pickL t15 t26 (.bool false)) fun t27 =>
  J19_4 x0 x2 x4 t27 g  K)) (
  gdV t15 true (lenL Tryd.prog 51 undefL g) fun t21 =>
  gdV t15 true (some x0) fun t22 =>
  gdV t15 true (nilCheckL t22) fun t23 =>
  gdV t15 true (fieldAddrL 1 t23) fun t24 =>
  gdD t15 true (loadV none t24 g) (fun t25 =>
  gdV t15 true (binL Tryd.prog .geq 3 false t21 t25) fun t26 =>
  vK (pickL t15 t26 (.bool false)) fun t27 =>
  J19_4 x0 x2 x4 t27 g  K) (
  gdV t15 true (binL Tryd.prog .geq 3 false t21 undefL) fun t26 =>
  vK (pickL t15 t26 (.bool false)) fun t27 =>
  J19_4 x0 x2 x4 t27 g  K))) ∧ True)
abbrev kj19_2  (K : LV → LHeap → Prop) : LSt → Prop := fun st => J19_2 (st.tm 0) (st.tm 2) (st.tm 4) st.g  K
theorem J19_2_ok  (K : LV → LHeap → Prop) (tm : Nat → LV) (g : LHeap) (h : J19_2 (tm 0) (tm 2) (tm 4) g  K) : codeL Tryd.prog (Ok Tryd.prog) (nd19 [1, 1, 1]) ⟨tm, g⟩ (en19 K) := by
  refine seq_i (a := nd19 [1, 1, 1, 0]) (b := nd19 [1, 1, 1, 1]) (k' := kj19_3  K) (by kernel_rfl) (fun st h => J19_3_ok  K st.tm st.g h) ?_
  refine seq_i (a := nd19 [1, 1, 1, 0, 0]) (b := nd19 [1, 1, 1, 0, 1]) (k' := kj19_4  K) (by kernel_rfl) (fun st h => J19_4_ok  K st.tm st.g h) ?_
  try unfold J19_2 at h
  unfold kj19_4
  generalize @J19_4 = Q19_4 at h ⊢
  unfold kj19_3
  generalize @J19_3 = Q19_3 at h ⊢
  refine code3_sound ok_mono (pl := [(5, (.lt 0 false (.lt 1 false (.hv 2 (.lt 3 false (.lt 4 false (.lt 5 false (.lt 6 false (.lt 7 false (.lt 8 true (.lt 9 false (.lt 10 false (.lt 11 false (.lt 12 false (.lt 13 true (.lt 14 false (.lt 15 false .nil))))))))))))) .nil))))]) _ _ _ (by kernel_rfl) ?_
  refine kmp ?_ h
  generalize Ok Tryd.prog = C
  try unfold en19
  as_aux_lemma => kernel_rfl

noncomputable def J19_1 (x0 x2 x4 : LV) (g : LHeap)  (K : LV → LHeap → Prop) : Prop :=
  vK (binL Tryd.prog .lss 3 true x2 (.int .i64 (0))) fun t11 =>
  ifB t11 (
  K (.int .i64 (1)) g) (
  J19_2 x0 x2 x4 g  K)
abbrev kj19_1  (K : LV → LHeap → Prop) : LSt → Prop := fun st => J19_1 (st.tm 0) (st.tm 2) (st.tm 4) st.g  K
theorem J19_1_ok  (K : LV → LHeap → Prop) (tm : Nat → LV) (g : LHeap) (h : J19_1 (tm 0) (tm 2) (tm 4) g  K) : codeL Tryd.prog (Ok Tryd.prog) (nd19 [1, 1]) ⟨tm, g⟩ (en19 K) := by
  refine seq_i (a := nd19 [1, 1, 0]) (b := nd19 [1, 1, 1]) (k' := kj19_2  K) (by kernel_rfl) (fun st h => J19_2_ok  K st.tm st.g h) ?_
  try unfold J19_1 at h
  unfold kj19_2
  generalize @J19_2 = Q19_2 at h ⊢
  refine code2_sound ok_mono _ _ _ ?_
  refine kmp ?_ h
  generalize Ok Tryd.prog = C
  try unfold en19
  as_aux_lemma => kernel_rfl

noncomputable def J19_0 (x0 x2 x4 : LV) (g : LHeap)  (K : LV → LHeap → Prop) : Prop :=
  Ok Tryd.prog 55 [x0] g fun t8 g =>
  vK (unL .not t8) fun t9 =>
  ifB t9 (
  K (.int .i64 (6)) g) (
  J19_1 x0 x2 x4 g  K)
abbrev kj19_0  (K : LV → LHeap → Prop) : LSt → Prop := fun st => J19_0 (st.tm 0) (st.tm 2) (st.tm 4) st.g  K
theorem J19_0_ok  (K : LV → LHeap → Prop) (tm : Nat → LV) (g : LHeap) (h : J19_0 (tm 0) (tm 2) (tm 4) g  K) : codeL Tryd.prog (Ok Tryd.prog) (nd19 [1]) ⟨tm, g⟩ (en19 K) := by
  refine seq_i (a := nd19 [1, 0]) (b := nd19 [1, 1]) (k' := kj19_1  K) (by kernel_rfl) (fun st h => J19_1_ok  K st.tm st.g h) ?_
  try unfold J19_0 at h
  unfold kj19_1
  generalize @J19_1 = Q19_1 at h ⊢
  refine code2_sound ok_mono _ _ _ ?_
  refine kmp ?_ h
  generalize Ok Tryd.prog = C
  try unfold en19
  as_aux_lemma => kernel_rfl

noncomputable def F19 (x0 x1 x2 : LV) (g : LHeap) (K : LV → LHeap → Prop) : Prop :=
  oK (newL x1 g) fun t4 g =>
  J19_0 x0 x2 t4 g  K
theorem ok19 {x0 x1 x2 : LV} {g : LHeap} {K : LV → LHeap → Prop} (h : g.Wf → (∀ v ∈ ([x0, x1, x2] : List LV), ∀ b ∈ v.objs, b < g.next) → F19 x0 x1 x2 g K) : Ok Tryd.prog 19 [x0, x1, x2] g K := by
  refine ok_fw Tryd.mixed Tryd.func19 (by kernel_rfl) (by kernel_rfl) (c := nd19 []) (by kernel_rfl) fun wf lt => ?_
  rw [← en19_eq]
  replace h := h wf lt
  generalize hs : startL _ = tm
  replace h : F19 (tm 0) (tm 1) (tm 2) g K := by rw [← hs]; exact h
  refine seq_i (a := nd19 [0]) (b := nd19 [1]) (k' := kj19_0  K) (by kernel_rfl) (fun st h => J19_0_ok  K st.tm st.g h) ?_
  try unfold F19 at h
  unfold kj19_0
  generalize @J19_0 = Q19_0 at h ⊢
  refine code2_sound ok_mono _ _ _ ?_
  refine kmp ?_ h
  generalize Ok Tryd.prog = C
  try unfold en19
  as_aux_lemma => kernel_rfl

/-! (*parapet/parapetref19.Cache).Put (53 slots) -/
noncomputable def en20 (K : LV → LHeap → Prop) : LEx → LSt → Prop := fun e st => match e with
  | .exit _ => False
  | _ => K (st.tm 6) st.g
theorem en20_eq (K : LV → LHeap → Prop) : en20 K = endL Tryd.prog Tryd.f20 K := by
  funext e st
  cases e <;> kernel_rfl
noncomputable def nd20 (p : List Nat) : Code := subC p (bodyC Tryd.prog 20)
noncomputable def J20_2 (x0 x2 x4 : LV) (g : LHeap)  (K : LV → LHeap → Prop) : Prop :=
  vK (nilCheckL x0) fun t31 =>
  vK (fieldAddrL 2 t31) fun t32 =>
  vK (loadV none t32 g) fun t33 =>
  vK (binL Tryd.prog .add 3 true t33 (.int .i64 (1))) fun t34 =>
  vK (nilCheckL x0) fun t35 =>
  vK (fieldAddrL 2 t35) fun t36 =>
  gK (storeV 1 t36 t34 g) fun g =>
  vK (nilCheckL x0) fun t39 =>
  vK (fieldAddrL 1 t39) fun t40 =>
  vK (loadV none t40 g) fun t41 =>
  vK (loadV (some 2) x4 g) fun t42 =>
  vK (nilCheckL x0) fun t45 =>
  vK (fieldAddrL 2 t45) fun t46 =>
  vK (loadV none t46 g) fun t47 =>
  vK (buildL Tryd.prog 54 [(0, t42), (1, x2), (2, t47)]) fun t48 =>
  ((oK (buildSliceL Tryd.prog 37 1 [(0, t48)] g) fun t49 g =>
  ((loadV none t40 g) = some t41 ∧ 
  ((oK (builtinL Tryd.prog .append [37, 37] [t41, t49] g) fun t50 g =>
  
  vK (nilCheckL x0) fun t51 =>
  vK (fieldAddrL 1 t51) fun t52 =>
  ((gK (storeV 1 t52 t50 g) fun g =>
  
  K (.int .i64 (0)) g) ∧ True)) ∧ True))) ∧ True)
abbrev kj20_2  (K : LV → LHeap → Prop) : LSt → Prop := fun st => J20_2 (st.tm 0) (st.tm 2) (st.tm 4) st.g  K
theorem J20_2_ok  (K : LV → LHeap → Prop) (tm : Nat → LV) (g : LHeap) (h : J20_2 (tm 0) (tm 2) (tm 4) g  K) : codeL Tryd.prog (Ok Tryd.prog) (nd20 [1, 1, 1]) ⟨tm, g⟩ (en20 K) := by
  try unfold J20_2 at h
  refine code3_sound ok_mono (pl := [(9, (.lt 0 false (.lt 1 false (.lt 2 false (.lt 3 false (.lt 4 true (.lt 5 false (.lt 6 false (.lt 7 false (.lt 8 false (.lt 9 false (.lt 10 false (.lt 11 false (.hv 12 (.hv 13 (.lt 14 false (.lt 15 false (.hv 16 .nil .nil))) .nil) .nil))))))))))))))]) _ _ _ (by kernel_rfl) ?_
  refine kmp ?_ h
  generalize Ok Tryd.prog = C
  try unfold en20
  as_aux_lemma => kernel_rfl

noncomputable def J20_1 (x0 x2 x4 : LV) (g : LHeap)  (K : LV → LHeap → Prop) : Prop :=
  vK (loadV (some 2) x4 g) fun t11 =>
  Ok Tryd.prog 56 [x0, t11] g fun t12 g =>
  vK (binL Tryd.prog .geq 3 true t12 (.int .i64 (0))) fun t14 =>
  ifB t14 (
  Ok Tryd.prog 57 [x0, t12] g fun t17 g =>
  J20_2 x0 x2 x4 g  K) (
  vK (nilCheckL x0) fun t19 =>
  vK (fieldAddrL 1 t19) fun t20 =>
  vK (loadV none t20 g) fun t21 =>
  vK (lenL Tryd.prog 37 t21 g) fun t22 =>
  vK (nilCheckL x0) fun t24 =>
  vK (fieldAddrL 0 t24) fun t25 =>
  vK (loadV none t25 g) fun t26 =>
  vK (binL Tryd.prog .geq 3 false t22 t26) fun t27 =>
  ifB t27 (
  Ok Tryd.prog 57 [x0, (.int .i64 (0))] g fun t29 g =>
  J20_2 x0 x2 x4 g  K) (
  J20_2 x0 x2 x4 g  K))
abbrev kj20_1  (K : LV → LHeap → Prop) : LSt → Prop := fun st => J20_1 (st.tm 0) (st.tm 2) (st.tm 4) st.g  K
theorem J20_1_ok  (K : LV → LHeap → Prop) (tm : Nat → LV) (g : LHeap) (h : J20_1 (tm 0) (tm 2) (tm 4) g  K) : codeL Tryd.prog (Ok Tryd.prog) (nd20 [1, 1]) ⟨tm, g⟩ (en20 K) := by
  refine seq_i (a := nd20 [1, 1, 0]) (b := nd20 [1, 1, 1]) (k' := kj20_2  K) (by kernel_rfl) (fun st h => J20_2_ok  K st.tm st.g h) ?_
  try unfold J20_1 at h
  unfold kj20_2
  generalize @J20_2 = Q20_2 at h ⊢
  refine code2_sound ok_mono _ _ _ ?_
  refine kmp ?_ h
  generalize Ok Tryd.prog = C
  try unfold en20
  as_aux_lemma => kernel_rfl

noncomputable def J20_0 (x0 x2 x4 : LV) (g : LHeap)  (K : LV → LHeap → Prop) : Prop :=
  vK (binL Tryd.prog .lss 3 true x2 (.int .i64 (0))) fun t9 =>
  ifB t9 (
  K (.int .i64 (1)) g) (
  J20_1 x0 x2 x4 g  K)
abbrev kj20_0  (K : LV → LHeap → Prop) : LSt → Prop := fun st => J20_0 (st.tm 0) (st.tm 2) (st.tm 4) st.g  K
theorem J20_0_ok  (K : LV → LHeap → Prop) (tm : Nat → LV) (g : LHeap) (h : J20_0 (tm 0) (tm 2) (tm 4) g  K) : codeL Tryd.prog (Ok Tryd.prog) (nd20 [1]) ⟨tm, g⟩ (en20 K) := by
  refine seq_i (a := nd20 [1, 0]) (b := nd20 [1, 1]) (k' := kj20_1  K) (by kernel_rfl) (fun st h => J20_1_ok  K st.tm st.g h) ?_
  try unfold J20_0 at h
  unfold kj20_1
  generalize @J20_1 = Q20_1 at h ⊢
  refine code2_sound ok_mono _ _ _ ?_
  refine kmp ?_ h
  generalize Ok Tryd.prog = C
  try unfold en20
  as_aux_lemma => kernel_rfl

noncomputable def F20 (x0 x1 x2 : LV) (g : LHeap) (K : LV → LHeap → Prop) : Prop :=
  oK (newL x1 g) fun t4 g =>
  J20_0 x0 x2 t4 g  K
theorem ok20 {x0 x1 x2 : LV} {g : LHeap} {K : LV → LHeap → Prop} (h : g.Wf → (∀ v ∈ ([x0, x1, x2] : List LV), ∀ b ∈ v.objs, b < g.next) → F20 x0 x1 x2 g K) : Ok Tryd.prog 20 [x0, x1, x2] g K := by
  refine ok_fw Tryd.mixed Tryd.func20 (by kernel_rfl) (by kernel_rfl) (c := nd20 []) (by kernel_rfl) fun wf lt => ?_
  rw [← en20_eq]
  replace h := h wf lt
  generalize hs : startL _ = tm
  replace h : F20 (tm 0) (tm 1) (tm 2) g K := by rw [← hs]; exact h
  refine seq_i (a := nd20 [0]) (b := nd20 [1]) (k' := kj20_0  K) (by kernel_rfl) (fun st h => J20_0_ok  K st.tm st.g h) ?_
  try unfold F20 at h
  unfold kj20_0
  generalize @J20_0 = Q20_0 at h ⊢
  refine code2_sound ok_mono _ _ _ ?_
  refine kmp ?_ h
  generalize Ok Tryd.prog = C
  try unfold en20
  as_aux_lemma => kernel_rfl

/-! (*parapet/namec.Cache).Forget (41 slots) -/
noncomputable def en21 (K : LV → LHeap → Prop) : LEx → LSt → Prop := fun e st => match e with
  | .exit _ => False
  | _ => K (st.tm 4) st.g
theorem en21_eq (K : LV → LHeap → Prop) : en21 K = endL Tryd.prog Tryd.f21 K := by
  funext e st
  cases e <;> kernel_rfl
noncomputable def nd21 (p : List Nat) : Code := subC p (bodyC Tryd.prog 21)
noncomputable def F21 (x0 x1 : LV) (g : LHeap) (K : LV → LHeap → Prop) : Prop :=
  oK (newL x1 g) fun t3 g =>
  vK (loadV (some 2) t3 g) fun t9 =>
  Ok Tryd.prog 17 [x0, t9] g fun t10 g =>
  vK (extractL t10 0) fun t11 =>
  vK (extractL t10 1) fun t12 =>
  vK (unL .not t12) fun t14 =>
  ifB t14 (
  K (.bool false) g) (
  vK (nilCheckL x0) fun t16 =>
  vK (fieldAddrL 0 t16) fun t17 =>
  vK (loadV none t17 g) fun t18 =>
  vK (nilCheckL x0) fun t20 =>
  vK (fieldAddrL 2 t20) fun t21 =>
  vK (loadV none t21 g) fun t22 =>
  vK (loadV (some 2) t3 g) fun t23 =>
  vK (lookupL Tryd.prog 110 t22 t23 false g) fun t24 =>
  vK (fieldVT Tryd.prog 114 1 t24) fun t25 =>
  ((Ok Tryd.prog 58 [t18, t25] g fun t26 g =>
  
  vK (nilCheckL x0) fun t28 =>
  vK (fieldAddrL 2 t28) fun t29 =>
  vK (loadV none t29 g) fun t30 =>
  vK (loadV (some 2) t3 g) fun t31 =>
  ((oK (builtinL Tryd.prog .delete [110, 42] [t30, t31] g) fun u g =>
  
  vK (nilCheckL x0) fun t34 =>
  vK (fieldAddrL 3 t34) fun t35 =>
  vK (loadV none t35 g) fun t36 =>
  Ok Tryd.prog 59 [t36, (.func (.func 60) [] [t3])] g fun t38 g =>
  vK (nilCheckL x0) fun t39 =>
  vK (fieldAddrL 3 t39) fun t40 =>
  gK (storeV 1 t40 t38 g) fun g =>
  K (.bool true) g) ∧ True)) ∧ True))
theorem ok21 {x0 x1 : LV} {g : LHeap} {K : LV → LHeap → Prop} (h : g.Wf → (∀ v ∈ ([x0, x1] : List LV), ∀ b ∈ v.objs, b < g.next) → F21 x0 x1 g K) : Ok Tryd.prog 21 [x0, x1] g K := by
  refine ok_fw Tryd.mixed Tryd.func21 (by kernel_rfl) (by kernel_rfl) (c := nd21 []) (by kernel_rfl) fun wf lt => ?_
  rw [← en21_eq]
  replace h := h wf lt
  generalize hs : startL _ = tm
  replace h : F21 (tm 0) (tm 1) g K := by rw [← hs]; exact h
  try unfold F21 at h
  refine code2_sound ok_mono _ _ _ ?_
  refine kmp ?_ h
  generalize Ok Tryd.prog = C
  try unfold en21
  as_aux_lemma => kernel_rfl

/-! (*parapet/parapetref19.Cache).Forget (16 slots) -/
noncomputable def en22 (K : LV → LHeap → Prop) : LEx → LSt → Prop := fun e st => match e with
  | .exit _ => False
  | _ => K (st.tm 4) st.g
theorem en22_eq (K : LV → LHeap → Prop) : en22 K = endL Tryd.prog Tryd.f22 K := by
  funext e st
  cases e <;> kernel_rfl
noncomputable def nd22 (p : List Nat) : Code := subC p (bodyC Tryd.prog 22)
noncomputable def F22 (x0 x1 : LV) (g : LHeap) (K : LV → LHeap → Prop) : Prop :=
  oK (newL x1 g) fun t3 g =>
  vK (loadV (some 2) t3 g) fun t7 =>
  Ok Tryd.prog 56 [x0, t7] g fun t8 g =>
  vK (binL Tryd.prog .geq 3 true t8 (.int .i64 (0))) fun t10 =>
  ifB t10 (
  Ok Tryd.prog 57 [x0, t8] g fun t13 g =>
  vK (binL Tryd.prog .geq 3 true t8 (.int .i64 (0))) fun t15 =>
  K t15 g) (
  vK (binL Tryd.prog .geq 3 true t8 (.int .i64 (0))) fun t15 =>
  K t15 g)
theorem ok22 {x0 x1 : LV} {g : LHeap} {K : LV → LHeap → Prop} (h : g.Wf → (∀ v ∈ ([x0, x1] : List LV), ∀ b ∈ v.objs, b < g.next) → F22 x0 x1 g K) : Ok Tryd.prog 22 [x0, x1] g K := by
  refine ok_fw Tryd.mixed Tryd.func22 (by kernel_rfl) (by kernel_rfl) (c := nd22 []) (by kernel_rfl) fun wf lt => ?_
  rw [← en22_eq]
  replace h := h wf lt
  generalize hs : startL _ = tm
  replace h : F22 (tm 0) (tm 1) g K := by rw [← hs]; exact h
  try unfold F22 at h
  refine code2_sound ok_mono _ _ _ ?_
  refine kmp ?_ h
  generalize Ok Tryd.prog = C
  try unfold en22
  as_aux_lemma => kernel_rfl

/-! (*parapet/namec.Cache).ForgetDir (28 slots) -/
noncomputable def en23 (K : LV → LHeap → Prop) : LEx → LSt → Prop := fun e st => match e with
  | .exit _ => False
  | _ => K (st.tm 4) st.g
theorem en23_eq (K : LV → LHeap → Prop) : en23 K = endL Tryd.prog Tryd.f23 K := by
  funext e st
  cases e <;> kernel_rfl
noncomputable def nd23 (p : List Nat) : Code := subC p (bodyC Tryd.prog 23)
noncomputable def J23_2 (x5 : LV) (g : LHeap)  (K : LV → LHeap → Prop) : Prop :=
  K x5 g
abbrev kj23_2  (K : LV → LHeap → Prop) : LSt → Prop := fun st => J23_2 (st.tm 5) st.g  K
theorem J23_2_ok  (K : LV → LHeap → Prop) (tm : Nat → LV) (g : LHeap) (h : J23_2 (tm 5) g  K) : codeL Tryd.prog (Ok Tryd.prog) (nd23 [1, 1, 1]) ⟨tm, g⟩ (en23 K) := by
  try unfold J23_2 at h
  refine code2_sound ok_mono _ _ _ ?_
  refine kmp ?_ h
  generalize Ok Tryd.prog = C
  try unfold en23
  as_aux_lemma => kernel_rfl

noncomputable def L23_4 (x0 x1 x9 x10 : LV) (x5 x11 : LV) (g : LHeap) (N4 : LV × LV → LHeap → Prop) (K : LV → LHeap → Prop) : Prop :=
  vK (binL Tryd.prog .lss 3 false x11 x10) fun t12 =>
  ifB t12 (
  vK (ixAddrL none 2 x9 x11) fun t13 =>
  vK (loadV (some 2) t13 g) fun t14 =>
  oK (newL (.agg [(.int .i64 (0)), (.str [])]) g) fun t7 g =>
  gK (storeV 2 t7 t14 g) fun g =>
  vK (fieldAddrL 0 t7) fun t15 =>
  vK (loadV none t15 g) fun t16 =>
  vK (binL Tryd.prog .eql 3 false t16 x1) fun t18 =>
  gd t18 true g (fun K => K x0 g) fun t20 g =>
  gd t18 true g (fun K => vK (loadV (some 2) t7 g) fun v => K v g) fun t21 g =>
  gd t18 true g (fun K => Ok Tryd.prog 21 [t20, t21] g K) fun t22 g =>
  vK (pickL t18 t22 (.bool false)) fun t23 =>
  ifB t23 (
  vK (binL Tryd.prog .add 3 true x5 (.int .i64 (1))) fun t25 =>
  vK (binL Tryd.prog .add 3 true x11 (.int .i64 (1))) fun t26 =>
  N4 (t25, t26) g) (
  vK (binL Tryd.prog .add 3 true x11 (.int .i64 (1))) fun t26 =>
  N4 (x5, t26) g)) (
  J23_2 x5 g  K)
theorem L23_4_ok (R4 : LV × LV × LV × LV → LV × LV → LHeap → Prop) (K : LV → LHeap → Prop) (tm : Nat → LV) (g : LHeap) (h : L23_4 (tm 0) (tm 1) (tm 9) (tm 10) (tm 5) (tm 11) g (fun s g => R4 ((tm 0), (tm 1), (tm 9), (tm 10)) s g) K) : codeL Tryd.prog (Ok Tryd.prog) (nd23 [1, 1, 0, 1, 0, 0]) ⟨tm, g⟩ (roundK (fun tm : Nat → LV => (tm 0, tm 1, tm 9, tm 10)) (fun tm : Nat → LV => (tm 5, tm 11)) R4 (exitL 0 (thenL (kj23_2  K) (en23 K)))) := by
  try unfold L23_4 at h
  unfold kj23_2
  generalize @J23_2 = Q23_2 at h ⊢
  refine code2_sound ok_mono _ _ _ ?_
  refine kmp ?_ h
  generalize Ok Tryd.prog = C
  try unfold en23
  as_aux_lemma => kernel_rfl

noncomputable def J23_3 (x0 x1 x5 x9 x10 x11 : LV) (g : LHeap)  (K : LV → LHeap → Prop) : Prop :=
  loopP (fun s g N => L23_4 x0 x1 x9 x10 s.1 s.2 g N  K) (x5, x11) g
abbrev kj23_3  (K : LV → LHeap → Prop) : LSt → Prop := fun st => J23_3 (st.tm 0) (st.tm 1) (st.tm 5) (st.tm 9) (st.tm 10) (st.tm 11) st.g  K
theorem J23_3_ok  (K : LV → LHeap → Prop) (tm : Nat → LV) (g : LHeap) (h : J23_3 (tm 0) (tm 1) (tm 5) (tm 9) (tm 10) (tm 11) g  K) : codeL Tryd.prog (Ok Tryd.prog) (nd23 [1, 1, 0, 1]) ⟨tm, g⟩ (thenL (kj23_2  K) (en23 K)) := by
  refine block_i (b := nd23 [1, 1, 0, 1, 0]) (i := 0) (by kernel_rfl) ?_
  exact loop_glue (b := nd23 [1, 1, 0, 1, 0, 0]) (by kernel_rfl) (fun tm : Nat → LV => (tm 0, tm 1, tm 9, tm 10)) (fun tm : Nat → LV => (tm 5, tm 11)) (fun a s g N => L23_4 a.1 a.2.1 a.2.2.1 a.2.2.2 s.1 s.2 g N  K) (fun tm g R h => L23_4_ok R  K tm g h) tm g h

noncomputable def J23_1 (x0 x1 x5 : LV) (g : LHeap)  (K : LV → LHeap → Prop) : Prop :=
  Ok Tryd.prog 26 [x0] g fun t9 g =>
  oK (builtinL Tryd.prog .len [51] [t9] g) fun t10 g =>
  J23_3 x0 x1 x5 t9 t10 (.int .i64 (0)) g  K
abbrev kj23_1  (K : LV → LHeap → Prop) : LSt → Prop := fun st => J23_1 (st.tm 0) (st.tm 1) (st.tm 5) st.g  K
theorem J23_1_ok  (K : LV → LHeap → Prop) (tm : Nat → LV) (g : LHeap) (h : J23_1 (tm 0) (tm 1) (tm 5) g  K) : codeL Tryd.prog (Ok Tryd.prog) (nd23 [1, 1]) ⟨tm, g⟩ (en23 K) := by
  refine seq_i (a := nd23 [1, 1, 0]) (b := nd23 [1, 1, 1]) (k' := kj23_2  K) (by kernel_rfl) (fun st h => J23_2_ok  K st.tm st.g h) ?_
  refine seq_i (a := nd23 [1, 1, 0, 0]) (b := nd23 [1, 1, 0, 1]) (k' := kj23_3  K) (by kernel_rfl) (fun st h => J23_3_ok  K st.tm st.g h) ?_
  try unfold J23_1 at h
  unfold kj23_3
  generalize @J23_3 = Q23_3 at h ⊢
  unfold kj23_2
  generalize @J23_2 = Q23_2 at h ⊢
  refine code2_sound ok_mono _ _ _ ?_
  refine kmp ?_ h
  generalize Ok Tryd.prog = C
  try unfold en23
  as_aux_lemma => kernel_rfl

noncomputable def J23_0 (x0 x1 : LV) (g : LHeap)  (K : LV → LHeap → Prop) : Prop :=
  J23_1 x0 x1 (.int .i64 (0)) g  K
abbrev kj23_0  (K : LV → LHeap → Prop) : LSt → Prop := fun st => J23_0 (st.tm 0) (st.tm 1) st.g  K
theorem J23_0_ok  (K : LV → LHeap → Prop) (tm : Nat → LV) (g : LHeap) (h : J23_0 (tm 0) (tm 1) g  K) : codeL Tryd.prog (Ok Tryd.prog) (nd23 [1]) ⟨tm, g⟩ (en23 K) := by
  refine seq_i (a := nd23 [1, 0]) (b := nd23 [1, 1]) (k' := kj23_1  K) (by kernel_rfl) (fun st h => J23_1_ok  K st.tm st.g h) ?_
  try unfold J23_0 at h
  unfold kj23_1
  generalize @J23_1 = Q23_1 at h ⊢
  refine code2_sound ok_mono _ _ _ ?_
  refine kmp ?_ h
  generalize Ok Tryd.prog = C
  try unfold en23
  as_aux_lemma => kernel_rfl

noncomputable def F23 (x0 x1 : LV) (g : LHeap) (K : LV → LHeap → Prop) : Prop :=
  J23_0 x0 x1 g  K
theorem ok23 {x0 x1 : LV} {g : LHeap} {K : LV → LHeap → Prop} (h : g.Wf → (∀ v ∈ ([x0, x1] : List LV), ∀ b ∈ v.objs, b < g.next) → F23 x0 x1 g K) : Ok Tryd.prog 23 [x0, x1] g K := by
  refine ok_fw Tryd.mixed Tryd.func23 (by kernel_rfl) (by kernel_rfl) (c := nd23 []) (by kernel_rfl) fun wf lt => ?_
  rw [← en23_eq]
  replace h := h wf lt
  generalize hs : startL _ = tm
  replace h : F23 (tm 0) (tm 1) g K := by rw [← hs]; exact h
  refine seq_i (a := nd23 [0]) (b := nd23 [1]) (k' := kj23_0  K) (by kernel_rfl) (fun st h => J23_0_ok  K st.tm st.g h) ?_
  try unfold F23 at h
  unfold kj23_0
  generalize @J23_0 = Q23_0 at h ⊢
  refine code2_sound ok_mono _ _ _ ?_
  refine kmp ?_ h
  generalize Ok Tryd.prog = C
  try unfold en23
  as_aux_lemma => kernel_rfl

/-! (*parapet/parapetref19.Cache).ForgetDir (33 slots) -/
noncomputable def en24 (K : LV → LHeap → Prop) : LEx → LSt → Prop := fun e st => match e with
  | .exit _ => False
  | _ => K (st.tm 4) st.g
theorem en24_eq (K : LV → LHeap → Prop) : en24 K = endL Tryd.prog Tryd.f24 K := by
  funext e st
  cases e <;> kernel_rfl
noncomputable def nd24 (p : List Nat) : Code := subC p (bodyC Tryd.prog 24)
noncomputable def J24_2 (x5 : LV) (g : LHeap)  (K : LV → LHeap → Prop) : Prop :=
  K x5 g
abbrev kj24_2  (K : LV → LHeap → Prop) : LSt → Prop := fun st => J24_2 (st.tm 5) st.g  K
theorem J24_2_ok  (K : LV → LHeap → Prop) (tm : Nat → LV) (g : LHeap) (h : J24_2 (tm 5) g  K) : codeL Tryd.prog (Ok Tryd.prog) (nd24 [1, 1, 1]) ⟨tm, g⟩ (en24 K) := by
  try unfold J24_2 at h
  refine code2_sound ok_mono _ _ _ ?_
  refine kmp ?_ h
  generalize Ok Tryd.prog = C
  try unfold en24
  as_aux_lemma => kernel_rfl

noncomputable def L24_4 (x0 x1 : LV) (x5 x6 : LV) (g : LHeap) (N4 : LV × LV → LHeap → Prop) (K : LV → LHeap → Prop) : Prop :=
  vK (nilCheckL x0) fun t9 =>
  vK (fieldAddrL 1 t9) fun t10 =>
  vK (loadV none t10 g) fun t11 =>
  oK (builtinL Tryd.prog .len [37] [t11] g) fun t12 g =>
  vK (binL Tryd.prog .lss 3 false x6 t12) fun t13 =>
  ifB t13 (
  vK (nilCheckL x0) fun t15 =>
  vK (fieldAddrL 1 t15) fun t16 =>
  vK (loadV none t16 g) fun t17 =>
  vK (ixAddrL none 4 t17 x6) fun t19 =>
  vK (fieldAddrL 0 t19) fun t20 =>
  vK (fieldAddrL 0 t20) fun t21 =>
  vK (loadV none t21 g) fun t22 =>
  vK (binL Tryd.prog .eql 3 false t22 x1) fun t24 =>
  ifB t24 (
  Ok Tryd.prog 57 [x0, x6] g fun t27 g =>
  vK (binL Tryd.prog .add 3 true x5 (.int .i64 (1))) fun t29 =>
  N4 (t29, x6) g) (
  vK (binL Tryd.prog .add 3 true x6 (.int .i64 (1))) fun t31 =>
  N4 (x5, t31) g)) (
  J24_2 x5 g  K)
theorem L24_4_ok (R4 : LV × LV → LV × LV → LHeap → Prop) (K : LV → LHeap → Prop) (tm : Nat → LV) (g : LHeap) (h : L24_4 (tm 0) (tm 1) (tm 5) (tm 6) g (fun s g => R4 ((tm 0), (tm 1)) s g) K) : codeL Tryd.prog (Ok Tryd.prog) (nd24 [1, 1, 0, 1, 0, 0]) ⟨tm, g⟩ (roundK (fun tm : Nat → LV => (tm 0, tm 1)) (fun tm : Nat → LV => (tm 5, tm 6)) R4 (exitL 0 (thenL (kj24_2  K) (en24 K)))) := by
  try unfold L24_4 at h
  unfold kj24_2
  generalize @J24_2 = Q24_2 at h ⊢
  refine code2_sound ok_mono _ _ _ ?_
  refine kmp ?_ h
  generalize Ok Tryd.prog = C
  try unfold en24
  as_aux_lemma => kernel_rfl

noncomputable def J24_3 (x0 x1 x5 x6 : LV) (g : LHeap)  (K : LV → LHeap → Prop) : Prop :=
  loopP (fun s g N => L24_4 x0 x1 s.1 s.2 g N  K) (x5, x6) g
abbrev kj24_3  (K : LV → LHeap → Prop) : LSt → Prop := fun st => J24_3 (st.tm 0) (st.tm 1) (st.tm 5) (st.tm 6) st.g  K
theorem J24_3_ok  (K : LV → LHeap → Prop) (tm : Nat → LV) (g : LHeap) (h : J24_3 (tm 0) (tm 1) (tm 5) (tm 6) g  K) : codeL Tryd.prog (Ok Tryd.prog) (nd24 [1, 1, 0, 1]) ⟨tm, g⟩ (thenL (kj24_2  K) (en24 K)) := by
  refine block_i (b := nd24 [1, 1, 0, 1, 0]) (i := 0) (by kernel_rfl) ?_
  exact loop_glue (b := nd24 [1, 1, 0, 1, 0, 0]) (by kernel_rfl) (fun tm : Nat → LV => (tm 0, tm 1)) (fun tm : Nat → LV => (tm 5, tm 6)) (fun a s g N => L24_4 a.1 a.2 s.1 s.2 g N  K) (fun tm g R h => L24_4_ok R  K tm g h) tm g h

noncomputable def J24_1 (x0 x1 x5 : LV) (g : LHeap)  (K : LV → LHeap → Prop) : Prop :=
  J24_3 x0 x1 x5 (.int .i64 (0)) g  K
abbrev kj24_1  (K : LV → LHeap → Prop) : LSt → Prop := fun st => J24_1 (st.tm 0) (st.tm 1) (st.tm 5) st.g  K
theorem J24_1_ok  (K : LV → LHeap → Prop) (tm : Nat → LV) (g : LHeap) (h : J24_1 (tm 0) (tm 1) (tm 5) g  K) : codeL Tryd.prog (Ok Tryd.prog) (nd24 [1, 1]) ⟨tm, g⟩ (en24 K) := by
  refine seq_i (a := nd24 [1, 1, 0]) (b := nd24 [1, 1, 1]) (k' := kj24_2  K) (by kernel_rfl) (fun st h => J24_2_ok  K st.tm st.g h) ?_
  refine seq_i (a := nd24 [1, 1, 0, 0]) (b := nd24 [1, 1, 0, 1]) (k' := kj24_3  K) (by kernel_rfl) (fun st h => J24_3_ok  K st.tm st.g h) ?_
  try unfold J24_1 at h
  unfold kj24_3
  generalize @J24_3 = Q24_3 at h ⊢
  unfold kj24_2
  generalize @J24_2 = Q24_2 at h ⊢
  refine code2_sound ok_mono _ _ _ ?_
  refine kmp ?_ h
  generalize Ok Tryd.prog = C
  try unfold en24
  as_aux_lemma => kernel_rfl

noncomputable def J24_0 (x0 x1 : LV) (g : LHeap)  (K : LV → LHeap → Prop) : Prop :=
  J24_1 x0 x1 (.int .i64 (0)) g  K
abbrev kj24_0  (K : LV → LHeap → Prop) : LSt → Prop := fun st => J24_0 (st.tm 0) (st.tm 1) st.g  K
theorem J24_0_ok  (K : LV → LHeap → Prop) (tm : Nat → LV) (g : LHeap) (h : J24_0 (tm 0) (tm 1) g  K) : codeL Tryd.prog (Ok Tryd.prog) (nd24 [1]) ⟨tm, g⟩ (en24 K) := by
  refine seq_i (a := nd24 [1, 0]) (b := nd24 [1, 1]) (k' := kj24_1  K) (by kernel_rfl) (fun st h => J24_1_ok  K st.tm st.g h) ?_
  try unfold J24_0 at h
  unfold kj24_1
  generalize @J24_1 = Q24_1 at h ⊢
  refine code2_sound ok_mono _ _ _ ?_
  refine kmp ?_ h
  generalize Ok Tryd.prog = C
  try unfold en24
  as_aux_lemma => kernel_rfl

noncomputable def F24 (x0 x1 : LV) (g : LHeap) (K : LV → LHeap → Prop) : Prop :=
  J24_0 x0 x1 g  K
theorem ok24 {x0 x1 : LV} {g : LHeap} {K : LV → LHeap → Prop} (h : g.Wf → (∀ v ∈ ([x0, x1] : List LV), ∀ b ∈ v.objs, b < g.next) → F24 x0 x1 g K) : Ok Tryd.prog 24 [x0, x1] g K := by
  refine ok_fw Tryd.mixed Tryd.func24 (by kernel_rfl) (by kernel_rfl) (c := nd24 []) (by kernel_rfl) fun wf lt => ?_
  rw [← en24_eq]
  replace h := h wf lt
  generalize hs : startL _ = tm
  replace h : F24 (tm 0) (tm 1) g K := by rw [← hs]; exact h
  refine seq_i (a := nd24 [0]) (b := nd24 [1]) (k' := kj24_0  K) (by kernel_rfl) (fun st h => J24_0_ok  K st.tm st.g h) ?_
  try unfold F24 at h
  unfold kj24_0
  generalize @J24_0 = Q24_0 at h ⊢
  refine code2_sound ok_mono _ _ _ ?_
  refine kmp ?_ h
  generalize Ok Tryd.prog = C
  try unfold en24
  as_aux_lemma => kernel_rfl

/-! (*parapet/rcu.Domain).Waiting (25 slots) -/
noncomputable def en25 (K : LV → LHeap → Prop) : LEx → LSt → Prop := fun e st => match e with
  | .exit _ => False
  | _ => K (st.tm 2) st.g
theorem en25_eq (K : LV → LHeap → Prop) : en25 K = endL Tryd.prog Tryd.f25 K := by
  funext e st
  cases e <;> kernel_rfl
noncomputable def nd25 (p : List Nat) : Code := subC p (bodyC Tryd.prog 25)
noncomputable def J25_3 (x3 : LV) (g : LHeap)  (K : LV → LHeap → Prop) : Prop :=
  K x3 g
abbrev kj25_3  (K : LV → LHeap → Prop) : LSt → Prop := fun st => J25_3 (st.tm 3) st.g  K
theorem J25_3_ok  (K : LV → LHeap → Prop) (tm : Nat → LV) (g : LHeap) (h : J25_3 (tm 3) g  K) : codeL Tryd.prog (Ok Tryd.prog) (nd25 [1, 1, 1, 1]) ⟨tm, g⟩ (en25 K) := by
  try unfold J25_3 at h
  refine code2_sound ok_mono _ _ _ ?_
  refine kmp ?_ h
  generalize Ok Tryd.prog = C
  try unfold en25
  as_aux_lemma => kernel_rfl

noncomputable def L25_5 (x12 x13 : LV) (x3 x14 : LV) (g : LHeap) (N5 : LV × LV → LHeap → Prop) (K : LV → LHeap → Prop) : Prop :=
  vK (binL Tryd.prog .lss 3 false x14 x13) fun t15 =>
  ifB t15 (
  vK (ixAddrL none 2 x12 x14) fun t16 =>
  vK (loadV (some 2) t16 g) fun t17 =>
  oK (newL (.agg [(.int .i64 (0)), (.int .i64 (0))]) g) fun t5 g =>
  gK (storeV 2 t5 t17 g) fun g =>
  vK (fieldAddrL 0 t5) fun t19 =>
  vK (loadV none t19 g) fun t20 =>
  oK (buildSliceL Tryd.prog 38 1 [(0, t20)] g) fun t21 g =>
  oK (builtinL Tryd.prog .append [38, 38] [x3, t21] g) fun t22 g =>
  vK (binL Tryd.prog .add 3 true x14 (.int .i64 (1))) fun t23 =>
  N5 (t22, t23) g) (
  J25_3 x3 g  K)
theorem L25_5_ok (R5 : LV × LV → LV × LV → LHeap → Prop) (K : LV → LHeap → Prop) (tm : Nat → LV) (g : LHeap) (h : L25_5 (tm 12) (tm 13) (tm 3) (tm 14) g (fun s g => R5 ((tm 12), (tm 13)) s g) K) : codeL Tryd.prog (Ok Tryd.prog) (nd25 [1, 1, 1, 0, 1, 0, 0]) ⟨tm, g⟩ (roundK (fun tm : Nat → LV => (tm 12, tm 13)) (fun tm : Nat → LV => (tm 3, tm 14)) R5 (exitL 0 (thenL (kj25_3  K) (en25 K)))) := by
  try unfold L25_5 at h
  unfold kj25_3
  generalize @J25_3 = Q25_3 at h ⊢
  refine code2_sound ok_mono _ _ _ ?_
  refine kmp ?_ h
  generalize Ok Tryd.prog = C
  try unfold en25
  as_aux_lemma => kernel_rfl

noncomputable def J25_4 (x3 x12 x13 x14 : LV) (g : LHeap)  (K : LV → LHeap → Prop) : Prop :=
  loopP (fun s g N => L25_5 x12 x13 s.1 s.2 g N  K) (x3, x14) g
abbrev kj25_4  (K : LV → LHeap → Prop) : LSt → Prop := fun st => J25_4 (st.tm 3) (st.tm 12) (st.tm 13) (st.tm 14) st.g  K
theorem J25_4_ok  (K : LV → LHeap → Prop) (tm : Nat → LV) (g : LHeap) (h : J25_4 (tm 3) (tm 12) (tm 13) (tm 14) g  K) : codeL Tryd.prog (Ok Tryd.prog) (nd25 [1, 1, 1, 0, 1]) ⟨tm, g⟩ (thenL (kj25_3  K) (en25 K)) := by
  refine block_i (b := nd25 [1, 1, 1, 0, 1, 0]) (i := 0) (by kernel_rfl) ?_
  exact loop_glue (b := nd25 [1, 1, 1, 0, 1, 0, 0]) (by kernel_rfl) (fun tm : Nat → LV => (tm 12, tm 13)) (fun tm : Nat → LV => (tm 3, tm 14)) (fun a s g N => L25_5 a.1 a.2 s.1 s.2 g N  K) (fun tm g R h => L25_5_ok R  K tm g h) tm g h

noncomputable def J25_2 (x0 x3 : LV) (g : LHeap)  (K : LV → LHeap → Prop) : Prop :=
  vK (nilCheckL x0) fun t10 =>
  vK (fieldAddrL 3 t10) fun t11 =>
  vK (loadV none t11 g) fun t12 =>
  oK (builtinL Tryd.prog .len [107] [t12] g) fun t13 g =>
  J25_4 x3 t12 t13 (.int .i64 (0)) g  K
abbrev kj25_2  (K : LV → LHeap → Prop) : LSt → Prop := fun st => J25_2 (st.tm 0) (st.tm 3) st.g  K
theorem J25_2_ok  (K : LV → LHeap → Prop) (tm : Nat → LV) (g : LHeap) (h : J25_2 (tm 0) (tm 3) g  K) : codeL Tryd.prog (Ok Tryd.prog) (nd25 [1, 1, 1]) ⟨tm, g⟩ (en25 K) := by
  refine seq_i (a := nd25 [1, 1, 1, 0]) (b := nd25 [1, 1, 1, 1]) (k' := kj25_3  K) (by kernel_rfl) (fun st h => J25_3_ok  K st.tm st.g h) ?_
  refine seq_i (a := nd25 [1, 1, 1, 0, 0]) (b := nd25 [1, 1, 1, 0, 1]) (k' := kj25_4  K) (by kernel_rfl) (fun st h => J25_4_ok  K st.tm st.g h) ?_
  try unfold J25_2 at h
  unfold kj25_4
  generalize @J25_4 = Q25_4 at h ⊢
  unfold kj25_3
  generalize @J25_3 = Q25_3 at h ⊢
  refine code2_sound ok_mono _ _ _ ?_
  refine kmp ?_ h
  generalize Ok Tryd.prog = C
  try unfold en25
  as_aux_lemma => kernel_rfl

noncomputable def J25_1 (x0 : LV) (g : LHeap)  (K : LV → LHeap → Prop) : Prop :=
  J25_2 x0 .nils g  K
abbrev kj25_1  (K : LV → LHeap → Prop) : LSt → Prop := fun st => J25_1 (st.tm 0) st.g  K
theorem J25_1_ok  (K : LV → LHeap → Prop) (tm : Nat → LV) (g : LHeap) (h : J25_1 (tm 0) g  K) : codeL Tryd.prog (Ok Tryd.prog) (nd25 [1, 1]) ⟨tm, g⟩ (en25 K) := by
  refine seq_i (a := nd25 [1, 1, 0]) (b := nd25 [1, 1, 1]) (k' := kj25_2  K) (by kernel_rfl) (fun st h => J25_2_ok  K st.tm st.g h) ?_
  try unfold J25_1 at h
  unfold kj25_2
  generalize @J25_2 = Q25_2 at h ⊢
  refine code2_sound ok_mono _ _ _ ?_
  refine kmp ?_ h
  generalize Ok Tryd.prog = C
  try unfold en25
  as_aux_lemma => kernel_rfl

noncomputable def J25_0 (x0 : LV) (g : LHeap)  (K : LV → LHeap → Prop) : Prop :=
  Ok Tryd.prog 61 [x0] g fun t7 g =>
  vK (unL .not t7) fun t8 =>
  ifB t8 (
  K .nils g) (
  J25_1 x0 g  K)
abbrev kj25_0  (K : LV → LHeap → Prop) : LSt → Prop := fun st => J25_0 (st.tm 0) st.g  K
theorem J25_0_ok  (K : LV → LHeap → Prop) (tm : Nat → LV) (g : LHeap) (h : J25_0 (tm 0) g  K) : codeL Tryd.prog (Ok Tryd.prog) (nd25 [1]) ⟨tm, g⟩ (en25 K) := by
  refine seq_i (a := nd25 [1, 0]) (b := nd25 [1, 1]) (k' := kj25_1  K) (by kernel_rfl) (fun st h => J25_1_ok  K st.tm st.g h) ?_
  try unfold J25_0 at h
  unfold kj25_1
  generalize @J25_1 = Q25_1 at h ⊢
  refine code2_sound ok_mono _ _ _ ?_
  refine kmp ?_ h
  generalize Ok Tryd.prog = C
  try unfold en25
  as_aux_lemma => kernel_rfl

noncomputable def F25 (x0 : LV) (g : LHeap) (K : LV → LHeap → Prop) : Prop :=
  J25_0 x0 g  K
theorem ok25 {x0 : LV} {g : LHeap} {K : LV → LHeap → Prop} (h : g.Wf → (∀ v ∈ ([x0] : List LV), ∀ b ∈ v.objs, b < g.next) → F25 x0 g K) : Ok Tryd.prog 25 [x0] g K := by
  refine ok_fw Tryd.mixed Tryd.func25 (by kernel_rfl) (by kernel_rfl) (c := nd25 []) (by kernel_rfl) fun wf lt => ?_
  rw [← en25_eq]
  replace h := h wf lt
  generalize hs : startL _ = tm
  replace h : F25 (tm 0) g K := by rw [← hs]; exact h
  refine seq_i (a := nd25 [0]) (b := nd25 [1]) (k' := kj25_0  K) (by kernel_rfl) (fun st h => J25_0_ok  K st.tm st.g h) ?_
  try unfold F25 at h
  unfold kj25_0
  generalize @J25_0 = Q25_0 at h ⊢
  refine code2_sound ok_mono _ _ _ ?_
  refine kmp ?_ h
  generalize Ok Tryd.prog = C
  try unfold en25
  as_aux_lemma => kernel_rfl

/-! (*parapet/namec.Cache).Kept (11 slots) -/
noncomputable def en26 (K : LV → LHeap → Prop) : LEx → LSt → Prop := fun e st => match e with
  | .exit _ => False
  | _ => K (st.tm 2) st.g
theorem en26_eq (K : LV → LHeap → Prop) : en26 K = endL Tryd.prog Tryd.f26 K := by
  funext e st
  cases e <;> kernel_rfl
noncomputable def nd26 (p : List Nat) : Code := subC p (bodyC Tryd.prog 26)
noncomputable def F26 (x0 : LV) (g : LHeap) (K : LV → LHeap → Prop) : Prop :=
  Ok Tryd.prog 55 [x0] g fun t4 g =>
  vK (unL .not t4) fun t5 =>
  ifB t5 (
  K .nils g) (
  vK (nilCheckL x0) fun t7 =>
  vK (fieldAddrL 3 t7) fun t8 =>
  vK (loadV none t8 g) fun t9 =>
  Ok Tryd.prog 62 [t9] g fun t10 g =>
  K t10 g)
theorem ok26 {x0 : LV} {g : LHeap} {K : LV → LHeap → Prop} (h : g.Wf → (∀ v ∈ ([x0] : List LV), ∀ b ∈ v.objs, b < g.next) → F26 x0 g K) : Ok Tryd.prog 26 [x0] g K := by
  refine ok_fw Tryd.mixed Tryd.func26 (by kernel_rfl) (by kernel_rfl) (c := nd26 []) (by kernel_rfl) fun wf lt => ?_
  rw [← en26_eq]
  replace h := h wf lt
  generalize hs : startL _ = tm
  replace h : F26 (tm 0) g K := by rw [← hs]; exact h
  try unfold F26 at h
  refine code2_sound ok_mono _ _ _ ?_
  refine kmp ?_ h
  generalize Ok Tryd.prog = C
  try unfold en26
  as_aux_lemma => kernel_rfl

/-! (*parapet/namec.Cache).made (12 slots) -/
noncomputable def en55 (K : LV → LHeap → Prop) : LEx → LSt → Prop := fun e st => match e with
  | .exit _ => False
  | _ => K (st.tm 2) st.g
theorem en55_eq (K : LV → LHeap → Prop) : en55 K = endL Tryd.prog Tryd.f55 K := by
  funext e st
  cases e <;> kernel_rfl
noncomputable def nd55 (p : List Nat) : Code := subC p (bodyC Tryd.prog 55)
noncomputable def F55 (x0 : LV) (g : LHeap) (K : LV → LHeap → Prop) : Prop :=
  vK (binL Tryd.prog .neq 33 true x0 .nilp) fun t4 =>
  gd t4 true g (fun K => K x0 g) fun t6 g =>
  gd t4 true g (fun K => vK (nilCheckL t6) fun v => K v g) fun t7 g =>
  gd t4 true g (fun K => vK (fieldAddrL 0 t7) fun v => K v g) fun t8 g =>
  gd t4 true g (fun K => vK (loadV none t8 g) fun v => K v g) fun t9 g =>
  gd t4 true g (fun K => vK (binL Tryd.prog .neq 30 true t9 .nilp) fun v => K v g) fun t10 g =>
  vK (pickL t4 t10 (.bool false)) fun t11 =>
  K t11 g
theorem ok55 {x0 : LV} {g : LHeap} {K : LV → LHeap → Prop} (h : g.Wf → (∀ v ∈ ([x0] : List LV), ∀ b ∈ v.objs, b < g.next) → F55 x0 g K) : Ok Tryd.prog 55 [x0] g K := by
  refine ok_fw Tryd.mixed Tryd.func55 (by kernel_rfl) (by kernel_rfl) (c := nd55 []) (by kernel_rfl) fun wf lt => ?_
  rw [← en55_eq]
  replace h := h wf lt
  generalize hs : startL _ = tm
  replace h : F55 (tm 0) g K := by rw [← hs]; exact h
  try unfold F55 at h
  refine code2_sound ok_mono _ _ _ ?_
  refine kmp ?_ h
  generalize Ok Tryd.prog = C
  try unfold en55
  as_aux_lemma => kernel_rfl

/-! (*parapet/parapetref19.Cache).find (26 slots) -/
noncomputable def en56 (K : LV → LHeap → Prop) : LEx → LSt → Prop := fun e st => match e with
  | .exit _ => False
  | _ => K (st.tm 4) st.g
theorem en56_eq (K : LV → LHeap → Prop) : en56 K = endL Tryd.prog Tryd.f56 K := by
  funext e st
  cases e <;> kernel_rfl
noncomputable def nd56 (p : List Nat) : Code := subC p (bodyC Tryd.prog 56)
noncomputable def J56_1 (g : LHeap)  (K : LV → LHeap → Prop) : Prop :=
  K (.int .i64 (-1)) g
abbrev kj56_1  (K : LV → LHeap → Prop) : LSt → Prop := fun st => J56_1  st.g  K
theorem J56_1_ok  (K : LV → LHeap → Prop) (tm : Nat → LV) (g : LHeap) (h : J56_1  g  K) : codeL Tryd.prog (Ok Tryd.prog) (nd56 [1, 1]) ⟨tm, g⟩ (en56 K) := by
  try unfold J56_1 at h
  refine code2_sound ok_mono _ _ _ ?_
  refine kmp ?_ h
  generalize Ok Tryd.prog = C
  try unfold en56
  as_aux_lemma => kernel_rfl

noncomputable def L56_3 (x0 x3 : LV) (x5 : LV) (g : LHeap) (N3 : LV → LHeap → Prop) (K : LV → LHeap → Prop) : Prop :=
  vK (nilCheckL x0) fun t8 =>
  vK (fieldAddrL 1 t8) fun t9 =>
  vK (loadV none t9 g) fun t10 =>
  oK (builtinL Tryd.prog .len [37] [t10] g) fun t11 g =>
  vK (binL Tryd.prog .lss 3 false x5 t11) fun t12 =>
  ifB t12 (
  vK (nilCheckL x0) fun t16 =>
  vK (fieldAddrL 1 t16) fun t17 =>
  vK (loadV none t17 g) fun t18 =>
  vK (ixAddrL none 4 t18 x5) fun t20 =>
  vK (fieldAddrL 0 t20) fun t21 =>
  vK (loadV (some 2) t21 g) fun t22 =>
  vK (loadV (some 2) x3 g) fun t23 =>
  vK (binL Tryd.prog .eql 42 false t22 t23) fun t24 =>
  ifB t24 (
  K x5 g) (
  vK (binL Tryd.prog .add 3 true x5 (.int .i64 (1))) fun t14 =>
  N3 t14 g)) (
  J56_1  g  K)
theorem L56_3_ok (R3 : LV × LV → LV → LHeap → Prop) (K : LV → LHeap → Prop) (tm : Nat → LV) (g : LHeap) (h : L56_3 (tm 0) (tm 3) (tm 5) g (fun s g => R3 ((tm 0), (tm 3)) s g) K) : codeL Tryd.prog (Ok Tryd.prog) (nd56 [1, 0, 1, 0, 0]) ⟨tm, g⟩ (roundK (fun tm : Nat → LV => (tm 0, tm 3)) (fun tm : Nat → LV => tm 5) R3 (exitL 0 (thenL (kj56_1  K) (en56 K)))) := by
  try unfold L56_3 at h
  unfold kj56_1
  generalize @J56_1 = Q56_1 at h ⊢
  refine code2_sound ok_mono _ _ _ ?_
  refine kmp ?_ h
  generalize Ok Tryd.prog = C
  try unfold en56
  as_aux_lemma => kernel_rfl

noncomputable def J56_2 (x0 x3 x5 : LV) (g : LHeap)  (K : LV → LHeap → Prop) : Prop :=
  loopP (fun s g N => L56_3 x0 x3 s g N  K) x5 g
abbrev kj56_2  (K : LV → LHeap → Prop) : LSt → Prop := fun st => J56_2 (st.tm 0) (st.tm 3) (st.tm 5) st.g  K
theorem J56_2_ok  (K : LV → LHeap → Prop) (tm : Nat → LV) (g : LHeap) (h : J56_2 (tm 0) (tm 3) (tm 5) g  K) : codeL Tryd.prog (Ok Tryd.prog) (nd56 [1, 0, 1]) ⟨tm, g⟩ (thenL (kj56_1  K) (en56 K)) := by
  refine block_i (b := nd56 [1, 0, 1, 0]) (i := 0) (by kernel_rfl) ?_
  exact loop_glue (b := nd56 [1, 0, 1, 0, 0]) (by kernel_rfl) (fun tm : Nat → LV => (tm 0, tm 3)) (fun tm : Nat → LV => tm 5) (fun a s g N => L56_3 a.1 a.2 s g N  K) (fun tm g R h => L56_3_ok R  K tm g h) tm g h

noncomputable def J56_0 (x0 x3 : LV) (g : LHeap)  (K : LV → LHeap → Prop) : Prop :=
  J56_2 x0 x3 (.int .i64 (0)) g  K
abbrev kj56_0  (K : LV → LHeap → Prop) : LSt → Prop := fun st => J56_0 (st.tm 0) (st.tm 3) st.g  K
theorem J56_0_ok  (K : LV → LHeap → Prop) (tm : Nat → LV) (g : LHeap) (h : J56_0 (tm 0) (tm 3) g  K) : codeL Tryd.prog (Ok Tryd.prog) (nd56 [1]) ⟨tm, g⟩ (en56 K) := by
  refine seq_i (a := nd56 [1, 0]) (b := nd56 [1, 1]) (k' := kj56_1  K) (by kernel_rfl) (fun st h => J56_1_ok  K st.tm st.g h) ?_
  refine seq_i (a := nd56 [1, 0, 0]) (b := nd56 [1, 0, 1]) (k' := kj56_2  K) (by kernel_rfl) (fun st h => J56_2_ok  K st.tm st.g h) ?_
  try unfold J56_0 at h
  unfold kj56_2
  generalize @J56_2 = Q56_2 at h ⊢
  unfold kj56_1
  generalize @J56_1 = Q56_1 at h ⊢
  refine code2_sound ok_mono _ _ _ ?_
  refine kmp ?_ h
  generalize Ok Tryd.prog = C
  try unfold en56
  as_aux_lemma => kernel_rfl

noncomputable def F56 (x0 x1 : LV) (g : LHeap) (K : LV → LHeap → Prop) : Prop :=
  oK (newL x1 g) fun t3 g =>
  J56_0 x0 t3 g  K
theorem ok56 {x0 x1 : LV} {g : LHeap} {K : LV → LHeap → Prop} (h : g.Wf → (∀ v ∈ ([x0, x1] : List LV), ∀ b ∈ v.objs, b < g.next) → F56 x0 x1 g K) : Ok Tryd.prog 56 [x0, x1] g K := by
  refine ok_fw Tryd.mixed Tryd.func56 (by kernel_rfl) (by kernel_rfl) (c := nd56 []) (by kernel_rfl) fun wf lt => ?_
  rw [← en56_eq]
  replace h := h wf lt
  generalize hs : startL _ = tm
  replace h : F56 (tm 0) (tm 1) g K := by rw [← hs]; exact h
  refine seq_i (a := nd56 [0]) (b := nd56 [1]) (k' := kj56_0  K) (by kernel_rfl) (fun st h => J56_0_ok  K st.tm st.g h) ?_
  try unfold F56 at h
  unfold kj56_0
  generalize @J56_0 = Q56_0 at h ⊢
  refine code2_sound ok_mono _ _ _ ?_
  refine kmp ?_ h
  generalize Ok Tryd.prog = C
  try unfold en56
  as_aux_lemma => kernel_rfl

/-! (*parapet/parapetref19.Cache).drop (40 slots) -/
noncomputable def en57 (K : LV → LHeap → Prop) : LEx → LSt → Prop := fun e st => match e with
  | .exit _ => False
  | _ => K (.tuple []) st.g
theorem en57_eq (K : LV → LHeap → Prop) : en57 K = endL Tryd.prog Tryd.f57 K := by
  funext e st
  cases e <;> kernel_rfl
noncomputable def nd57 (p : List Nat) : Code := subC p (bodyC Tryd.prog 57)
noncomputable def F57 (x0 x1 : LV) (g : LHeap) (K : LV → LHeap → Prop) : Prop :=
  vK (nilCheckL x0) fun t6 =>
  vK (fieldAddrL 3 t6) fun t7 =>
  vK (loadV none t7 g) fun t8 =>
  vK (nilCheckL x0) fun t10 =>
  vK (fieldAddrL 1 t10) fun t11 =>
  vK (loadV none t11 g) fun t12 =>
  vK (ixAddrL none 4 t12 x1) fun t14 =>
  vK (fieldAddrL 3 t14) fun t15 =>
  vK (loadV none t15 g) fun t16 =>
  ((oK (buildSliceL Tryd.prog 38 1 [(0, t16)] g) fun t17 g =>
  ((loadV none t7 g) = some t8 ∧ 
  ((oK (builtinL Tryd.prog .append [38, 38] [t8, t17] g) fun t18 g =>
  
  vK (nilCheckL x0) fun t19 =>
  vK (fieldAddrL 3 t19) fun t20 =>
  ((gK (storeV 1 t20 t18 g) fun g =>
  
  vK (nilCheckL x0) fun t24 =>
  vK (fieldAddrL 1 t24) fun t25 =>
  vK (loadV none t25 g) fun t26 =>
  vK (cutT Tryd.prog 37 t26 none (some x1) none (limL t26 g)) fun t28 =>
  vK (nilCheckL x0) fun t31 =>
  vK (fieldAddrL 1 t31) fun t32 =>
  vK (loadV none t32 g) fun t33 =>
  vK (binL Tryd.prog .add 3 true x1 (.int .i64 (1))) fun t35 =>
  vK (cutT Tryd.prog 37 t33 (some t35) none none (limL t33 g)) fun t36 =>
  ((oK (buildSliceL Tryd.prog 37 0 [] g) fun t22 g =>
  ((loadV none t32 g) = some t33 ∧ ((loadV none t25 g) = some t26 ∧ 
  ((oK (builtinL Tryd.prog .append [37, 37] [t22, t28] g) fun t29 g =>
  ((loadV none t32 g) = some t33 ∧ 
  ((oK (builtinL Tryd.prog .append [37, 37] [t29, t36] g) fun t37 g =>
  
  vK (nilCheckL x0) fun t38 =>
  vK (fieldAddrL 1 t38) fun t39 =>
  ((gK (storeV 1 t39 t37 g) fun g =>
  
  K (.tuple []) g) ∧ True)) ∧ True))) ∧ True)))) ∧ True)) ∧ True)) ∧ True))) ∧ True)
theorem ok57 {x0 x1 : LV} {g : LHeap} {K : LV → LHeap → Prop} (h : g.Wf → (∀ v ∈ ([x0, x1] : List LV), ∀ b ∈ v.objs, b < g.next) → F57 x0 x1 g K) : Ok Tryd.prog 57 [x0, x1] g K := by
  refine ok_fw Tryd.mixed Tryd.func57 (by kernel_rfl) (by kernel_rfl) (c := nd57 []) (by kernel_rfl) fun wf lt => ?_
  rw [← en57_eq]
  replace h := h wf lt
  generalize hs : startL _ = tm
  replace h : F57 (tm 0) (tm 1) g K := by rw [← hs]; exact h
  try unfold F57 at h
  refine code3_sound ok_mono (pl := [(0, (.lt 0 false (.lt 1 false (.lt 2 false (.lt 3 false (.lt 4 true (.lt 5 false (.lt 6 false (.lt 7 false (.lt 8 false (.lt 9 false (.lt 10 false (.lt 11 false (.lt 12 false (.hv 13 (.hv 14 (.lt 15 false (.lt 16 false (.hv 17 .nil .nil))) .nil) .nil))))))))))))))), (1, (.lt 0 false (.lt 2 false (.lt 3 false (.lt 4 false (.lt 5 true (.lt 6 false (.lt 7 false (.lt 9 false (.lt 10 false (.lt 11 false (.lt 12 true (.lt 13 false (.lt 14 false (.lt 15 false (.hv 1 (.hv 8 (.hv 16 (.lt 17 false (.lt 18 false (.hv 19 .nil .nil))) .nil) .nil) .nil))))))))))))))))]) _ _ _ (by kernel_rfl) ?_
  refine kmp ?_ h
  generalize Ok Tryd.prog = C
  try unfold en57
  as_aux_lemma => kernel_rfl

/-! (*parapet/rcu.Domain).Defer (27 slots) -/
noncomputable def en58 (K : LV → LHeap → Prop) : LEx → LSt → Prop := fun e st => match e with
  | .exit _ => False
  | _ => K (st.tm 4) st.g
theorem en58_eq (K : LV → LHeap → Prop) : en58 K = endL Tryd.prog Tryd.f58 K := by
  funext e st
  cases e <;> kernel_rfl
noncomputable def nd58 (p : List Nat) : Code := subC p (bodyC Tryd.prog 58)
noncomputable def F58 (x0 x1 : LV) (g : LHeap) (K : LV → LHeap → Prop) : Prop :=
  Ok Tryd.prog 61 [x0] g fun t6 g =>
  vK (unL .not t6) fun t7 =>
  ifB t7 (
  K (.int .i64 (6)) g) (
  Ok Tryd.prog 25 [x0] g fun t9 g =>
  Ok Tryd.prog 95 [t9, x1] g fun t11 g =>
  ifB t11 (
  K (.int .i64 (101)) g) (
  vK (nilCheckL x0) fun t14 =>
  vK (fieldAddrL 3 t14) fun t15 =>
  vK (loadV none t15 g) fun t16 =>
  vK (nilCheckL x0) fun t19 =>
  vK (fieldAddrL 2 t19) fun t20 =>
  vK (loadV none t20 g) fun t21 =>
  vK (buildL Tryd.prog 120 [(0, x1), (1, t21)]) fun t22 =>
  ((oK (buildSliceL Tryd.prog 107 1 [(0, t22)] g) fun t23 g =>
  ((loadV none t15 g) = some t16 ∧ 
  ((oK (builtinL Tryd.prog .append [107, 107] [t16, t23] g) fun t24 g =>
  
  vK (nilCheckL x0) fun t25 =>
  vK (fieldAddrL 3 t25) fun t26 =>
  ((gK (storeV 1 t26 t24 g) fun g =>
  
  K (.int .i64 (0)) g) ∧ True)) ∧ True))) ∧ True)))
theorem ok58 {x0 x1 : LV} {g : LHeap} {K : LV → LHeap → Prop} (h : g.Wf → (∀ v ∈ ([x0, x1] : List LV), ∀ b ∈ v.objs, b < g.next) → F58 x0 x1 g K) : Ok Tryd.prog 58 [x0, x1] g K := by
  refine ok_fw Tryd.mixed Tryd.func58 (by kernel_rfl) (by kernel_rfl) (c := nd58 []) (by kernel_rfl) fun wf lt => ?_
  rw [← en58_eq]
  replace h := h wf lt
  generalize hs : startL _ = tm
  replace h : F58 (tm 0) (tm 1) g K := by rw [← hs]; exact h
  try unfold F58 at h
  refine code3_sound ok_mono (pl := [(5, (.lt 0 false (.lt 1 false (.lt 2 false (.lt 3 false (.lt 4 true (.lt 5 false (.lt 6 false (.lt 7 false (.lt 8 false (.lt 9 false (.lt 10 false (.hv 11 (.hv 12 (.lt 13 false (.lt 14 false (.hv 15 .nil .nil))) .nil) .nil)))))))))))))]) _ _ _ (by kernel_rfl) ?_
  refine kmp ?_ h
  generalize Ok Tryd.prog = C
  try unfold en58
  as_aux_lemma => kernel_rfl

/-! slices.DeleteFunc[[]parapet/api.Name,parapet/api.Name] (42 slots) -/
noncomputable def en59 (K : LV → LHeap → Prop) : LEx → LSt → Prop := fun e st => match e with
  | .exit _ => False
  | _ => K (st.tm 4) st.g
theorem en59_eq (K : LV → LHeap → Prop) : en59 K = endL Tryd.prog Tryd.f59 K := by
  funext e st
  cases e <;> kernel_rfl
noncomputable def nd59 (p : List Nat) : Code := subC p (bodyC Tryd.prog 59)
noncomputable def J59_3 (x0 x5 : LV) (g : LHeap)  (K : LV → LHeap → Prop) : Prop :=
  vK (cutT Tryd.prog 51 x0 (some x5) none none (limL x0 g)) fun t38 =>
  oK (builtinL Tryd.prog .clear [51] [t38] g) fun u g =>
  vK (cutT Tryd.prog 51 x0 none (some x5) none (limL x0 g)) fun t41 =>
  K t41 g
abbrev kj59_3  (K : LV → LHeap → Prop) : LSt → Prop := fun st => J59_3 (st.tm 0) (st.tm 5) st.g  K
theorem J59_3_ok  (K : LV → LHeap → Prop) (tm : Nat → LV) (g : LHeap) (h : J59_3 (tm 0) (tm 5) g  K) : codeL Tryd.prog (Ok Tryd.prog) (nd59 [1, 1, 1, 1]) ⟨tm, g⟩ (en59 K) := by
  try unfold J59_3 at h
  refine code2_sound ok_mono _ _ _ ?_
  refine kmp ?_ h
  generalize Ok Tryd.prog = C
  try unfold en59
  as_aux_lemma => kernel_rfl

noncomputable def L59_5 (x0 x1 : LV) (x5 x6 : LV) (g : LHeap) (N5 : LV × LV → LHeap → Prop) (K : LV → LHeap → Prop) : Prop :=
  oK (builtinL Tryd.prog .len [51] [x0] g) fun t18 g =>
  vK (binL Tryd.prog .lss 3 false x6 t18) fun t19 =>
  ifB t19 (
  vK (ixAddrL none 2 x0 x6) fun t24 =>
  vK (loadV (some 2) t24 g) fun t25 =>
  oK (newL (.agg [(.int .i64 (0)), (.str [])]) g) fun t7 g =>
  gK (storeV 2 t7 t25 g) fun g =>
  vK (loadV (some 2) t7 g) fun t27 =>
  callV Tryd.prog (Ok Tryd.prog) x1 [t27] g fun t28 g =>
  vK (unL .not t28) fun t29 =>
  ifB t29 (
  vK (loadV (some 2) t7 g) fun t32 =>
  vK (ixAddrL none 2 x0 x5) fun t33 =>
  gK (storeV 2 t33 t32 g) fun g =>
  vK (binL Tryd.prog .add 3 true x5 (.int .i64 (1))) fun t35 =>
  vK (binL Tryd.prog .add 3 true x6 (.int .i64 (1))) fun t21 =>
  N5 (t35, t21) g) (
  vK (binL Tryd.prog .add 3 true x6 (.int .i64 (1))) fun t21 =>
  N5 (x5, t21) g)) (
  J59_3 x0 x5 g  K)
theorem L59_5_ok (R5 : LV × LV → LV × LV → LHeap → Prop) (K : LV → LHeap → Prop) (tm : Nat → LV) (g : LHeap) (h : L59_5 (tm 0) (tm 1) (tm 5) (tm 6) g (fun s g => R5 ((tm 0), (tm 1)) s g) K) : codeL Tryd.prog (Ok Tryd.prog) (nd59 [1, 1, 1, 0, 1, 0, 0]) ⟨tm, g⟩ (roundK (fun tm : Nat → LV => (tm 0, tm 1)) (fun tm : Nat → LV => (tm 5, tm 6)) R5 (exitL 0 (thenL (kj59_3  K) (en59 K)))) := by
  try unfold L59_5 at h
  unfold kj59_3
  generalize @J59_3 = Q59_3 at h ⊢
  refine code2_sound ok_mono _ _ _ ?_
  refine kmp ?_ h
  generalize Ok Tryd.prog = C
  try unfold en59
  as_aux_lemma => kernel_rfl

noncomputable def J59_4 (x0 x1 x5 x6 : LV) (g : LHeap)  (K : LV → LHeap → Prop) : Prop :=
  loopP (fun s g N => L59_5 x0 x1 s.1 s.2 g N  K) (x5, x6) g
abbrev kj59_4  (K : LV → LHeap → Prop) : LSt → Prop := fun st => J59_4 (st.tm 0) (st.tm 1) (st.tm 5) (st.tm 6) st.g  K
theorem J59_4_ok  (K : LV → LHeap → Prop) (tm : Nat → LV) (g : LHeap) (h : J59_4 (tm 0) (tm 1) (tm 5) (tm 6) g  K) : codeL Tryd.prog (Ok Tryd.prog) (nd59 [1, 1, 1, 0, 1]) ⟨tm, g⟩ (thenL (kj59_3  K) (en59 K)) := by
  refine block_i (b := nd59 [1, 1, 1, 0, 1, 0]) (i := 0) (by kernel_rfl) ?_
  exact loop_glue (b := nd59 [1, 1, 1, 0, 1, 0, 0]) (by kernel_rfl) (fun tm : Nat → LV => (tm 0, tm 1)) (fun tm : Nat → LV => (tm 5, tm 6)) (fun a s g N => L59_5 a.1 a.2 s.1 s.2 g N  K) (fun tm g R h => L59_5_ok R  K tm g h) tm g h

noncomputable def J59_2 (x0 x1 x5 : LV) (g : LHeap)  (K : LV → LHeap → Prop) : Prop :=
  vK (binL Tryd.prog .add 3 true x5 (.int .i64 (1))) fun t15 =>
  J59_4 x0 x1 x5 t15 g  K
abbrev kj59_2  (K : LV → LHeap → Prop) : LSt → Prop := fun st => J59_2 (st.tm 0) (st.tm 1) (st.tm 5) st.g  K
theorem J59_2_ok  (K : LV → LHeap → Prop) (tm : Nat → LV) (g : LHeap) (h : J59_2 (tm 0) (tm 1) (tm 5) g  K) : codeL Tryd.prog (Ok Tryd.prog) (nd59 [1, 1, 1]) ⟨tm, g⟩ (en59 K) := by
  refine seq_i (a := nd59 [1, 1, 1, 0]) (b := nd59 [1, 1, 1, 1]) (k' := kj59_3  K) (by kernel_rfl) (fun st h => J59_3_ok  K st.tm st.g h) ?_
  refine seq_i (a := nd59 [1, 1, 1, 0, 0]) (b := nd59 [1, 1, 1, 0, 1]) (k' := kj59_4  K) (by kernel_rfl) (fun st h => J59_4_ok  K st.tm st.g h) ?_
  try unfold J59_2 at h
  unfold kj59_4
  generalize @J59_4 = Q59_4 at h ⊢
  unfold kj59_3
  generalize @J59_3 = Q59_3 at h ⊢
  refine code2_sound ok_mono _ _ _ ?_
  refine kmp ?_ h
  generalize Ok Tryd.prog = C
  try unfold en59
  as_aux_lemma => kernel_rfl

noncomputable def J59_1 (x0 x1 x5 : LV) (g : LHeap)  (K : LV → LHeap → Prop) : Prop :=
  vK (binL Tryd.prog .eql 3 true x5 (.int .i64 (-1))) fun t12 =>
  ifB t12 (
  K x0 g) (
  J59_2 x0 x1 x5 g  K)
abbrev kj59_1  (K : LV → LHeap → Prop) : LSt → Prop := fun st => J59_1 (st.tm 0) (st.tm 1) (st.tm 5) st.g  K
theorem J59_1_ok  (K : LV → LHeap → Prop) (tm : Nat → LV) (g : LHeap) (h : J59_1 (tm 0) (tm 1) (tm 5) g  K) : codeL Tryd.prog (Ok Tryd.prog) (nd59 [1, 1]) ⟨tm, g⟩ (en59 K) := by
  refine seq_i (a := nd59 [1, 1, 0]) (b := nd59 [1, 1, 1]) (k' := kj59_2  K) (by kernel_rfl) (fun st h => J59_2_ok  K st.tm st.g h) ?_
  try unfold J59_1 at h
  unfold kj59_2
  generalize @J59_2 = Q59_2 at h ⊢
  refine code2_sound ok_mono _ _ _ ?_
  refine kmp ?_ h
  generalize Ok Tryd.prog = C
  try unfold en59
  as_aux_lemma => kernel_rfl

noncomputable def J59_0 (x0 x1 : LV) (g : LHeap)  (K : LV → LHeap → Prop) : Prop :=
  Ok Tryd.prog 96 [x0, x1] g fun t10 g =>
  J59_1 x0 x1 t10 g  K
abbrev kj59_0  (K : LV → LHeap → Prop) : LSt → Prop := fun st => J59_0 (st.tm 0) (st.tm 1) st.g  K
theorem J59_0_ok  (K : LV → LHeap → Prop) (tm : Nat → LV) (g : LHeap) (h : J59_0 (tm 0) (tm 1) g  K) : codeL Tryd.prog (Ok Tryd.prog) (nd59 [1]) ⟨tm, g⟩ (en59 K) := by
  refine seq_i (a := nd59 [1, 0]) (b := nd59 [1, 1]) (k' := kj59_1  K) (by kernel_rfl) (fun st h => J59_1_ok  K st.tm st.g h) ?_
  try unfold J59_0 at h
  unfold kj59_1
  generalize @J59_1 = Q59_1 at h ⊢
  refine code2_sound ok_mono _ _ _ ?_
  refine kmp ?_ h
  generalize Ok Tryd.prog = C
  try unfold en59
  as_aux_lemma => kernel_rfl

noncomputable def F59 (x0 x1 : LV) (g : LHeap) (K : LV → LHeap → Prop) : Prop :=
  J59_0 x0 x1 g  K
theorem ok59 {x0 x1 : LV} {g : LHeap} {K : LV → LHeap → Prop} (h : g.Wf → (∀ v ∈ ([x0, x1] : List LV), ∀ b ∈ v.objs, b < g.next) → F59 x0 x1 g K) : Ok Tryd.prog 59 [x0, x1] g K := by
  refine ok_fw Tryd.mixed Tryd.func59 (by kernel_rfl) (by kernel_rfl) (c := nd59 []) (by kernel_rfl) fun wf lt => ?_
  rw [← en59_eq]
  replace h := h wf lt
  generalize hs : startL _ = tm
  replace h : F59 (tm 0) (tm 1) g K := by rw [← hs]; exact h
  refine seq_i (a := nd59 [0]) (b := nd59 [1]) (k' := kj59_0  K) (by kernel_rfl) (fun st h => J59_0_ok  K st.tm st.g h) ?_
  try unfold F59 at h
  unfold kj59_0
  generalize @J59_0 = Q59_0 at h ⊢
  refine code2_sound ok_mono _ _ _ ?_
  refine kmp ?_ h
  generalize Ok Tryd.prog = C
  try unfold en59
  as_aux_lemma => kernel_rfl

/-! (*parapet/namec.Cache).Forget$1 (7 slots) -/
noncomputable def en60 (K : LV → LHeap → Prop) : LEx → LSt → Prop := fun e st => match e with
  | .exit _ => False
  | _ => K (st.tm 3) st.g
theorem en60_eq (K : LV → LHeap → Prop) : en60 K = endL Tryd.prog Tryd.f60 K := by
  funext e st
  cases e <;> kernel_rfl
noncomputable def nd60 (p : List Nat) : Code := subC p (bodyC Tryd.prog 60)
noncomputable def F60 (x0 x1 : LV) (g : LHeap) (K : LV → LHeap → Prop) : Prop :=
  oK (newL x0 g) fun t2 g =>
  vK (loadV (some 2) t2 g) fun t4 =>
  vK (loadV (some 2) x1 g) fun t5 =>
  vK (binL Tryd.prog .eql 42 false t4 t5) fun t6 =>
  K t6 g
theorem ok60 {x0 x1 : LV} {g : LHeap} {K : LV → LHeap → Prop} (h : g.Wf → (∀ v ∈ ([x0, x1] : List LV), ∀ b ∈ v.objs, b < g.next) → F60 x0 x1 g K) : Ok Tryd.prog 60 [x0, x1] g K := by
  refine ok_fw Tryd.mixed Tryd.func60 (by kernel_rfl) (by kernel_rfl) (c := nd60 []) (by kernel_rfl) fun wf lt => ?_
  rw [← en60_eq]
  replace h := h wf lt
  generalize hs : startL _ = tm
  replace h : F60 (tm 0) (tm 1) g K := by rw [← hs]; exact h
  try unfold F60 at h
  refine code2_sound ok_mono _ _ _ ?_
  refine kmp ?_ h
  generalize Ok Tryd.prog = C
  try unfold en60
  as_aux_lemma => kernel_rfl

/-! (*parapet/rcu.Domain).made (13 slots) -/
noncomputable def en61 (K : LV → LHeap → Prop) : LEx → LSt → Prop := fun e st => match e with
  | .exit _ => False
  | _ => K (st.tm 2) st.g
theorem en61_eq (K : LV → LHeap → Prop) : en61 K = endL Tryd.prog Tryd.f61 K := by
  funext e st
  cases e <;> kernel_rfl
noncomputable def nd61 (p : List Nat) : Code := subC p (bodyC Tryd.prog 61)
noncomputable def F61 (x0 : LV) (g : LHeap) (K : LV → LHeap → Prop) : Prop :=
  vK (binL Tryd.prog .neq 30 true x0 .nilp) fun t4 =>
  gd t4 true g (fun K => K x0 g) fun t6 g =>
  gd t4 true g (fun K => vK (nilCheckL t6) fun v => K v g) fun t7 g =>
  gd t4 true g (fun K => vK (fieldAddrL 0 t7) fun v => K v g) fun t8 g =>
  gd t4 true g (fun K => vK (loadV none t8 g) fun v => K v g) fun t9 g =>
  gd t4 true g (fun K => oK (builtinL Tryd.prog .len [38] [t9] g) K) fun t10 g =>
  gd t4 true g (fun K => vK (binL Tryd.prog .gtr 3 true t10 (.int .i64 (0))) fun v => K v g) fun t11 g =>
  vK (pickL t4 t11 (.bool false)) fun t12 =>
  K t12 g
theorem ok61 {x0 : LV} {g : LHeap} {K : LV → LHeap → Prop} (h : g.Wf → (∀ v ∈ ([x0] : List LV), ∀ b ∈ v.objs, b < g.next) → F61 x0 g K) : Ok Tryd.prog 61 [x0] g K := by
  refine ok_fw Tryd.mixed Tryd.func61 (by kernel_rfl) (by kernel_rfl) (c := nd61 []) (by kernel_rfl) fun wf lt => ?_
  rw [← en61_eq]
  replace h := h wf lt
  generalize hs : startL _ = tm
  replace h : F61 (tm 0) g K := by rw [← hs]; exact h
  try unfold F61 at h
  refine code2_sound ok_mono _ _ _ ?_
  refine kmp ?_ h
  generalize Ok Tryd.prog = C
  try unfold en61
  as_aux_lemma => kernel_rfl

/-! slices.Clone[[]parapet/api.Name,parapet/api.Name] (8 slots) -/
noncomputable def en62 (K : LV → LHeap → Prop) : LEx → LSt → Prop := fun e st => match e with
  | .exit _ => False
  | _ => K (st.tm 2) st.g
theorem en62_eq (K : LV → LHeap → Prop) : en62 K = endL Tryd.prog Tryd.f62 K := by
  funext e st
  cases e <;> kernel_rfl
noncomputable def nd62 (p : List Nat) : Code := subC p (bodyC Tryd.prog 62)
noncomputable def F62 (x0 : LV) (g : LHeap) (K : LV → LHeap → Prop) : Prop :=
  vK (binL Tryd.prog .eql 51 true x0 .nils) fun t4 =>
  ifB t4 (
  K .nils g) (
  oK (buildSliceL Tryd.prog 51 0 [] g) fun t5 g =>
  oK (builtinL Tryd.prog .append [51, 51] [t5, x0] g) fun t7 g =>
  K t7 g)
theorem ok62 {x0 : LV} {g : LHeap} {K : LV → LHeap → Prop} (h : g.Wf → (∀ v ∈ ([x0] : List LV), ∀ b ∈ v.objs, b < g.next) → F62 x0 g K) : Ok Tryd.prog 62 [x0] g K := by
  refine ok_fw Tryd.mixed Tryd.func62 (by kernel_rfl) (by kernel_rfl) (c := nd62 []) (by kernel_rfl) fun wf lt => ?_
  rw [← en62_eq]
  replace h := h wf lt
  generalize hs : startL _ = tm
  replace h : F62 (tm 0) g K := by rw [← hs]; exact h
  try unfold F62 at h
  refine code2_sound ok_mono _ _ _ ?_
  refine kmp ?_ h
  generalize Ok Tryd.prog = C
  try unfold en62
  as_aux_lemma => kernel_rfl

/-! slices.Contains[[]int,int] (9 slots) -/
noncomputable def en95 (K : LV → LHeap → Prop) : LEx → LSt → Prop := fun e st => match e with
  | .exit _ => False
  | _ => K (st.tm 4) st.g
theorem en95_eq (K : LV → LHeap → Prop) : en95 K = endL Tryd.prog Tryd.f95 K := by
  funext e st
  cases e <;> kernel_rfl
noncomputable def nd95 (p : List Nat) : Code := subC p (bodyC Tryd.prog 95)
noncomputable def F95 (x0 x1 : LV) (g : LHeap) (K : LV → LHeap → Prop) : Prop :=
  Ok Tryd.prog 122 [x0, x1] g fun t7 g =>
  vK (binL Tryd.prog .geq 3 true t7 (.int .i64 (0))) fun t8 =>
  K t8 g
theorem ok95 {x0 x1 : LV} {g : LHeap} {K : LV → LHeap → Prop} (h : g.Wf → (∀ v ∈ ([x0, x1] : List LV), ∀ b ∈ v.objs, b < g.next) → F95 x0 x1 g K) : Ok Tryd.prog 95 [x0, x1] g K := by
  refine ok_fw Tryd.mixed Tryd.func95 (by kernel_rfl) (by kernel_rfl) (c := nd95 []) (by kernel_rfl) fun wf lt => ?_
  rw [← en95_eq]
  replace h := h wf lt
  generalize hs : startL _ = tm
  replace h : F95 (tm 0) (tm 1) g K := by rw [← hs]; exact h
  try unfold F95 at h
  refine code2_sound ok_mono _ _ _ ?_
  refine kmp ?_ h
  generalize Ok Tryd.prog = C
  try unfold en95
  as_aux_lemma => kernel_rfl

/-! slices.IndexFunc[[]parapet/api.Name,parapet/api.Name] (19 slots) -/
noncomputable def en96 (K : LV → LHeap → Prop) : LEx → LSt → Prop := fun e st => match e with
  | .exit _ => False
  | _ => K (st.tm 4) st.g
theorem en96_eq (K : LV → LHeap → Prop) : en96 K = endL Tryd.prog Tryd.f96 K := by
  funext e st
  cases e <;> kernel_rfl
noncomputable def nd96 (p : List Nat) : Code := subC p (bodyC Tryd.prog 96)
noncomputable def J96_1 (g : LHeap)  (K : LV → LHeap → Prop) : Prop :=
  K (.int .i64 (-1)) g
abbrev kj96_1  (K : LV → LHeap → Prop) : LSt → Prop := fun st => J96_1  st.g  K
theorem J96_1_ok  (K : LV → LHeap → Prop) (tm : Nat → LV) (g : LHeap) (h : J96_1  g  K) : codeL Tryd.prog (Ok Tryd.prog) (nd96 [1, 1]) ⟨tm, g⟩ (en96 K) := by
  try unfold J96_1 at h
  refine code2_sound ok_mono _ _ _ ?_
  refine kmp ?_ h
  generalize Ok Tryd.prog = C
  try unfold en96
  as_aux_lemma => kernel_rfl

noncomputable def L96_3 (x0 x1 x7 : LV) (x8 : LV) (g : LHeap) (N3 : LV → LHeap → Prop) (K : LV → LHeap → Prop) : Prop :=
  vK (binL Tryd.prog .lss 3 false x8 x7) fun t9 =>
  ifB t9 (
  vK (ixAddrL none 2 x0 x8) fun t14 =>
  vK (loadV (some 2) t14 g) fun t15 =>
  callV Tryd.prog (Ok Tryd.prog) x1 [t15] g fun t16 g =>
  ifB t16 (
  K x8 g) (
  vK (binL Tryd.prog .add 3 true x8 (.int .i64 (1))) fun t18 =>
  N3 t18 g)) (
  J96_1  g  K)
theorem L96_3_ok (R3 : LV × LV × LV → LV → LHeap → Prop) (K : LV → LHeap → Prop) (tm : Nat → LV) (g : LHeap) (h : L96_3 (tm 0) (tm 1) (tm 7) (tm 8) g (fun s g => R3 ((tm 0), (tm 1), (tm 7)) s g) K) : codeL Tryd.prog (Ok Tryd.prog) (nd96 [1, 0, 1, 0, 0]) ⟨tm, g⟩ (roundK (fun tm : Nat → LV => (tm 0, tm 1, tm 7)) (fun tm : Nat → LV => tm 8) R3 (exitL 0 (thenL (kj96_1  K) (en96 K)))) := by
  try unfold L96_3 at h
  unfold kj96_1
  generalize @J96_1 = Q96_1 at h ⊢
  refine code2_sound ok_mono _ _ _ ?_
  refine kmp ?_ h
  generalize Ok Tryd.prog = C
  try unfold en96
  as_aux_lemma => kernel_rfl

noncomputable def J96_2 (x0 x1 x7 x8 : LV) (g : LHeap)  (K : LV → LHeap → Prop) : Prop :=
  loopP (fun s g N => L96_3 x0 x1 x7 s g N  K) x8 g
abbrev kj96_2  (K : LV → LHeap → Prop) : LSt → Prop := fun st => J96_2 (st.tm 0) (st.tm 1) (st.tm 7) (st.tm 8) st.g  K
theorem J96_2_ok  (K : LV → LHeap → Prop) (tm : Nat → LV) (g : LHeap) (h : J96_2 (tm 0) (tm 1) (tm 7) (tm 8) g  K) : codeL Tryd.prog (Ok Tryd.prog) (nd96 [1, 0, 1]) ⟨tm, g⟩ (thenL (kj96_1  K) (en96 K)) := by
  refine block_i (b := nd96 [1, 0, 1, 0]) (i := 0) (by kernel_rfl) ?_
  exact loop_glue (b := nd96 [1, 0, 1, 0, 0]) (by kernel_rfl) (fun tm : Nat → LV => (tm 0, tm 1, tm 7)) (fun tm : Nat → LV => tm 8) (fun a s g N => L96_3 a.1 a.2.1 a.2.2 s g N  K) (fun tm g R h => L96_3_ok R  K tm g h) tm g h

noncomputable def J96_0 (x0 x1 : LV) (g : LHeap)  (K : LV → LHeap → Prop) : Prop :=
  oK (builtinL Tryd.prog .len [51] [x0] g) fun t7 g =>
  J96_2 x0 x1 t7 (.int .i64 (0)) g  K
abbrev kj96_0  (K : LV → LHeap → Prop) : LSt → Prop := fun st => J96_0 (st.tm 0) (st.tm 1) st.g  K
theorem J96_0_ok  (K : LV → LHeap → Prop) (tm : Nat → LV) (g : LHeap) (h : J96_0 (tm 0) (tm 1) g  K) : codeL Tryd.prog (Ok Tryd.prog) (nd96 [1]) ⟨tm, g⟩ (en96 K) := by
  refine seq_i (a := nd96 [1, 0]) (b := nd96 [1, 1]) (k' := kj96_1  K) (by kernel_rfl) (fun st h => J96_1_ok  K st.tm st.g h) ?_
  refine seq_i (a := nd96 [1, 0, 0]) (b := nd96 [1, 0, 1]) (k' := kj96_2  K) (by kernel_rfl) (fun st h => J96_2_ok  K st.tm st.g h) ?_
  try unfold J96_0 at h
  unfold kj96_2
  generalize @J96_2 = Q96_2 at h ⊢
  unfold kj96_1
  generalize @J96_1 = Q96_1 at h ⊢
  refine code2_sound ok_mono _ _ _ ?_
  refine kmp ?_ h
  generalize Ok Tryd.prog = C
  try unfold en96
  as_aux_lemma => kernel_rfl

noncomputable def F96 (x0 x1 : LV) (g : LHeap) (K : LV → LHeap → Prop) : Prop :=
  J96_0 x0 x1 g  K
theorem ok96 {x0 x1 : LV} {g : LHeap} {K : LV → LHeap → Prop} (h : g.Wf → (∀ v ∈ ([x0, x1] : List LV), ∀ b ∈ v.objs, b < g.next) → F96 x0 x1 g K) : Ok Tryd.prog 96 [x0, x1] g K := by
  refine ok_fw Tryd.mixed Tryd.func96 (by kernel_rfl) (by kernel_rfl) (c := nd96 []) (by kernel_rfl) fun wf lt => ?_
  rw [← en96_eq]
  replace h := h wf lt
  generalize hs : startL _ = tm
  replace h : F96 (tm 0) (tm 1) g K := by rw [← hs]; exact h
  refine seq_i (a := nd96 [0]) (b := nd96 [1]) (k' := kj96_0  K) (by kernel_rfl) (fun st h => J96_0_ok  K st.tm st.g h) ?_
  try unfold F96 at h
  unfold kj96_0
  generalize @J96_0 = Q96_0 at h ⊢
  refine code2_sound ok_mono _ _ _ ?_
  refine kmp ?_ h
  generalize Ok Tryd.prog = C
  try unfold en96
  as_aux_lemma => kernel_rfl

/-! slices.Index[[]int,int] (19 slots) -/
noncomputable def en122 (K : LV → LHeap → Prop) : LEx → LSt → Prop := fun e st => match e with
  | .exit _ => False
  | _ => K (st.tm 4) st.g
theorem en122_eq (K : LV → LHeap → Prop) : en122 K = endL Tryd.prog Tryd.f122 K := by
  funext e st
  cases e <;> kernel_rfl
noncomputable def nd122 (p : List Nat) : Code := subC p (bodyC Tryd.prog 122)
noncomputable def J122_1 (g : LHeap)  (K : LV → LHeap → Prop) : Prop :=
  K (.int .i64 (-1)) g
abbrev kj122_1  (K : LV → LHeap → Prop) : LSt → Prop := fun st => J122_1  st.g  K
theorem J122_1_ok  (K : LV → LHeap → Prop) (tm : Nat → LV) (g : LHeap) (h : J122_1  g  K) : codeL Tryd.prog (Ok Tryd.prog) (nd122 [1, 1]) ⟨tm, g⟩ (en122 K) := by
  try unfold J122_1 at h
  refine code2_sound ok_mono _ _ _ ?_
  refine kmp ?_ h
  generalize Ok Tryd.prog = C
  try unfold en122
  as_aux_lemma => kernel_rfl

noncomputable def L122_3 (x0 x1 x7 : LV) (x8 : LV) (g : LHeap) (N3 : LV → LHeap → Prop) (K : LV → LHeap → Prop) : Prop :=
  vK (binL Tryd.prog .lss 3 false x8 x7) fun t9 =>
  ifB t9 (
  vK (ixAddrL none 1 x0 x8) fun t14 =>
  vK (loadV none t14 g) fun t15 =>
  vK (binL Tryd.prog .eql 3 false x1 t15) fun t16 =>
  ifB t16 (
  K x8 g) (
  vK (binL Tryd.prog .add 3 true x8 (.int .i64 (1))) fun t18 =>
  N3 t18 g)) (
  J122_1  g  K)
theorem L122_3_ok (R3 : LV × LV × LV → LV → LHeap → Prop) (K : LV → LHeap → Prop) (tm : Nat → LV) (g : LHeap) (h : L122_3 (tm 0) (tm 1) (tm 7) (tm 8) g (fun s g => R3 ((tm 0), (tm 1), (tm 7)) s g) K) : codeL Tryd.prog (Ok Tryd.prog) (nd122 [1, 0, 1, 0, 0]) ⟨tm, g⟩ (roundK (fun tm : Nat → LV => (tm 0, tm 1, tm 7)) (fun tm : Nat → LV => tm 8) R3 (exitL 0 (thenL (kj122_1  K) (en122 K)))) := by
  try unfold L122_3 at h
  unfold kj122_1
  generalize @J122_1 = Q122_1 at h ⊢
  refine code2_sound ok_mono _ _ _ ?_
  refine kmp ?_ h
  generalize Ok Tryd.prog = C
  try unfold en122
  as_aux_lemma => kernel_rfl

noncomputable def J122_2 (x0 x1 x7 x8 : LV) (g : LHeap)  (K : LV → LHeap → Prop) : Prop :=
  loopP (fun s g N => L122_3 x0 x1 x7 s g N  K) x8 g
abbrev kj122_2  (K : LV → LHeap → Prop) : LSt → Prop := fun st => J122_2 (st.tm 0) (st.tm 1) (st.tm 7) (st.tm 8) st.g  K
theorem J122_2_ok  (K : LV → LHeap → Prop) (tm : Nat → LV) (g : LHeap) (h : J122_2 (tm 0) (tm 1) (tm 7) (tm 8) g  K) : codeL Tryd.prog (Ok Tryd.prog) (nd122 [1, 0, 1]) ⟨tm, g⟩ (thenL (kj122_1  K) (en122 K)) := by
  refine block_i (b := nd122 [1, 0, 1, 0]) (i := 0) (by kernel_rfl) ?_
  exact loop_glue (b := nd122 [1, 0, 1, 0, 0]) (by kernel_rfl) (fun tm : Nat → LV => (tm 0, tm 1, tm 7)) (fun tm : Nat → LV => tm 8) (fun a s g N => L122_3 a.1 a.2.1 a.2.2 s g N  K) (fun tm g R h => L122_3_ok R  K tm g h) tm g h

noncomputable def J122_0 (x0 x1 : LV) (g : LHeap)  (K : LV → LHeap → Prop) : Prop :=
  oK (builtinL Tryd.prog .len [38] [x0] g) fun t7 g =>
  J122_2 x0 x1 t7 (.int .i64 (0)) g  K
abbrev kj122_0  (K : LV → LHeap → Prop) : LSt → Prop := fun st => J122_0 (st.tm 0) (st.tm 1) st.g  K
theorem J122_0_ok  (K : LV → LHeap → Prop) (tm : Nat → LV) (g : LHeap) (h : J122_0 (tm 0) (tm 1) g  K) : codeL Tryd.prog (Ok Tryd.prog) (nd122 [1]) ⟨tm, g⟩ (en122 K) := by
  refine seq_i (a := nd122 [1, 0]) (b := nd122 [1, 1]) (k' := kj122_1  K) (by kernel_rfl) (fun st h => J122_1_ok  K st.tm st.g h) ?_
  refine seq_i (a := nd122 [1, 0, 0]) (b := nd122 [1, 0, 1]) (k' := kj122_2  K) (by kernel_rfl) (fun st h => J122_2_ok  K st.tm st.g h) ?_
  try unfold J122_0 at h
  unfold kj122_2
  generalize @J122_2 = Q122_2 at h ⊢
  unfold kj122_1
  generalize @J122_1 = Q122_1 at h ⊢
  refine code2_sound ok_mono _ _ _ ?_
  refine kmp ?_ h
  generalize Ok Tryd.prog = C
  try unfold en122
  as_aux_lemma => kernel_rfl

noncomputable def F122 (x0 x1 : LV) (g : LHeap) (K : LV → LHeap → Prop) : Prop :=
  J122_0 x0 x1 g  K
theorem ok122 {x0 x1 : LV} {g : LHeap} {K : LV → LHeap → Prop} (h : g.Wf → (∀ v ∈ ([x0, x1] : List LV), ∀ b ∈ v.objs, b < g.next) → F122 x0 x1 g K) : Ok Tryd.prog 122 [x0, x1] g K := by
  refine ok_fw Tryd.mixed Tryd.func122 (by kernel_rfl) (by kernel_rfl) (c := nd122 []) (by kernel_rfl) fun wf lt => ?_
  rw [← en122_eq]
  replace h := h wf lt
  generalize hs : startL _ = tm
  replace h : F122 (tm 0) (tm 1) g K := by rw [← hs]; exact h
  refine seq_i (a := nd122 [0]) (b := nd122 [1]) (k' := kj122_0  K) (by kernel_rfl) (fun st h => J122_0_ok  K st.tm st.g h) ?_
  try unfold F122 at h
  unfold kj122_0
  generalize @J122_0 = Q122_0 at h ⊢
  refine code2_sound ok_mono _ _ _ ?_
  refine kmp ?_ h
  generalize Ok Tryd.prog = C
  try unfold en122
  as_aux_lemma => kernel_rfl

end Go.Proofs.YthinkofjbabfbaaDoor
