/-
  Functions of the program, as texts of named values.
-/
import Derived.Test.YtgncgokjbakdmaaWa0
set_option linter.all false
namespace Go.Proofs.Ytgncgokjbakdmaa
open Go.ChangeShapes Go.WideShapes Go.ChangeAt Go.RowKit Go.Lm
set_option maxRecDepth 1000000
set_option linter.unusedVariables false
/-! (*parapet/waitq.Queue).All (12 slots) -/
noncomputable def en29 (K : LV → LHeap → Prop) : LEx → LSt → Prop := fun e st => match e with
  | .exit _ => False
  | _ => K (st.tm 2) st.g
theorem en29_eq (K : LV → LHeap → Prop) : en29 K = endL Try.prog Try.f29 K := by
  funext e st
  cases e <;> kernel_rfl
noncomputable def nd29 (p : List Nat) : Code := subC p (bodyC Try.prog 29)
noncomputable def F29 (x0 : LV) (g : LHeap) (K : LV → LHeap → Prop) : Prop :=
  Ok Try.prog 40 [x0] g fun t4 g =>
  vK (unL .not t4) fun t5 =>
  ifB t5 (
  K .nils g) (
  vK (nilCheckL x0) fun t7 =>
  vK (fieldAddrL 1 t7) fun t8 =>
  vK (loadV none t8 g) fun t9 =>
  Ok Try.prog 52 [t9] g fun t10 g =>
  Ok Try.prog 51 [t10] g fun t11 g =>
  K t11 g)
theorem ok29 {x0 : LV} {g : LHeap} {K : LV → LHeap → Prop} (h : g.Wf → (∀ v ∈ ([x0] : List LV), ∀ b ∈ v.objs, b < g.next) → F29 x0 g K) : Ok Try.prog 29 [x0] g K := by
  refine ok_fw Try.mixed Try.func29 (by kernel_rfl) (by kernel_rfl) (c := nd29 []) (by kernel_rfl) fun wf lt => ?_
  rw [← en29_eq]
  replace h := h wf lt
  generalize hs : startL _ = tm
  replace h : F29 (tm 0) g K := by rw [← hs]; exact h
  try unfold F29 at h
  refine code2_sound ok_mono _ _ _ ?_
  refine kmp ?_ h
  generalize Ok Try.prog = C
  try unfold en29
  as_aux_lemma => kernel_rfl

/-! slices.Sorted[int] (9 slots) -/
noncomputable def en51 (K : LV → LHeap → Prop) : LEx → LSt → Prop := fun e st => match e with
  | .exit _ => False
  | _ => K (st.tm 2) st.g
theorem en51_eq (K : LV → LHeap → Prop) : en51 K = endL Try.prog Try.f51 K := by
  funext e st
  cases e <;> kernel_rfl
noncomputable def nd51 (p : List Nat) : Code := subC p (bodyC Try.prog 51)
noncomputable def F51 (x0 : LV) (g : LHeap) (K : LV → LHeap → Prop) : Prop :=
  Ok Try.prog 77 [x0] g fun t5 g =>
  Ok Try.prog 46 [t5] g fun t7 g =>
  K t5 g
theorem ok51 {x0 : LV} {g : LHeap} {K : LV → LHeap → Prop} (h : g.Wf → (∀ v ∈ ([x0] : List LV), ∀ b ∈ v.objs, b < g.next) → F51 x0 g K) : Ok Try.prog 51 [x0] g K := by
  refine ok_fw Try.mixed Try.func51 (by kernel_rfl) (by kernel_rfl) (c := nd51 []) (by kernel_rfl) fun wf lt => ?_
  rw [← en51_eq]
  replace h := h wf lt
  generalize hs : startL _ = tm
  replace h : F51 (tm 0) g K := by rw [← hs]; exact h
  try unfold F51 at h
  refine code2_sound ok_mono _ _ _ ?_
  refine kmp ?_ h
  generalize Ok Try.prog = C
  try unfold en51
  as_aux_lemma => kernel_rfl

/-! maps.Keys[map[int][]parapet/api.Chan,int,[]parapet/api.Chan] (4 slots) -/
noncomputable def en52 (K : LV → LHeap → Prop) : LEx → LSt → Prop := fun e st => match e with
  | .exit _ => False
  | _ => K (st.tm 2) st.g
theorem en52_eq (K : LV → LHeap → Prop) : en52 K = endL Try.prog Try.f52 K := by
  funext e st
  cases e <;> kernel_rfl
noncomputable def nd52 (p : List Nat) : Code := subC p (bodyC Try.prog 52)
noncomputable def F52 (x0 : LV) (g : LHeap) (K : LV → LHeap → Prop) : Prop :=
  oK (newL x0 g) fun t1 g =>
  K (.func (.func 78) [] [t1]) g
theorem ok52 {x0 : LV} {g : LHeap} {K : LV → LHeap → Prop} (h : g.Wf → (∀ v ∈ ([x0] : List LV), ∀ b ∈ v.objs, b < g.next) → F52 x0 g K) : Ok Try.prog 52 [x0] g K := by
  refine ok_fw Try.mixed Try.func52 (by kernel_rfl) (by kernel_rfl) (c := nd52 []) (by kernel_rfl) fun wf lt => ?_
  rw [← en52_eq]
  replace h := h wf lt
  generalize hs : startL _ = tm
  replace h : F52 (tm 0) g K := by rw [← hs]; exact h
  try unfold F52 at h
  refine code2_sound ok_mono _ _ _ ?_
  refine kmp ?_ h
  generalize Ok Try.prog = C
  try unfold en52
  as_aux_lemma => kernel_rfl

/-! slices.Collect[int] (5 slots) -/
noncomputable def en77 (K : LV → LHeap → Prop) : LEx → LSt → Prop := fun e st => match e with
  | .exit _ => False
  | _ => K (st.tm 2) st.g
theorem en77_eq (K : LV → LHeap → Prop) : en77 K = endL Try.prog Try.f77 K := by
  funext e st
  cases e <;> kernel_rfl
noncomputable def nd77 (p : List Nat) : Code := subC p (bodyC Try.prog 77)
noncomputable def F77 (x0 : LV) (g : LHeap) (K : LV → LHeap → Prop) : Prop :=
  Ok Try.prog 94 [.nils, x0] g fun t4 g =>
  K t4 g
theorem ok77 {x0 : LV} {g : LHeap} {K : LV → LHeap → Prop} (h : g.Wf → (∀ v ∈ ([x0] : List LV), ∀ b ∈ v.objs, b < g.next) → F77 x0 g K) : Ok Try.prog 77 [x0] g K := by
  refine ok_fw Try.mixed Try.func77 (by kernel_rfl) (by kernel_rfl) (c := nd77 []) (by kernel_rfl) fun wf lt => ?_
  rw [← en77_eq]
  replace h := h wf lt
  generalize hs : startL _ = tm
  replace h : F77 (tm 0) g K := by rw [← hs]; exact h
  try unfold F77 at h
  refine code2_sound ok_mono _ _ _ ?_
  refine kmp ?_ h
  generalize Ok Try.prog = C
  try unfold en77
  as_aux_lemma => kernel_rfl

/-! maps.Keys[map[int][]parapet/api.Chan,int,[]parapet/api.Chan]$1 (14 slots) -/
noncomputable def en78 (K : LV → LHeap → Prop) : LEx → LSt → Prop := fun e st => match e with
  | .exit _ => False
  | _ => K (.tuple []) st.g
theorem en78_eq (K : LV → LHeap → Prop) : en78 K = endL Try.prog Try.f78 K := by
  funext e st
  cases e <;> kernel_rfl
noncomputable def nd78 (p : List Nat) : Code := subC p (bodyC Try.prog 78)
noncomputable def L78_1 (x0 x5 : LV) (g : LHeap) (N1 : Unit → LHeap → Prop) (K : LV → LHeap → Prop) : Prop :=
  nextMapL x5 g fun t6 g =>
  vK (extractL t6 0) fun t7 =>
  ifB t7 (
  vK (entryL x5 g) fun t8 =>
  vK (extractL t8 0) fun t9 =>
  callV Try.prog (Ok Try.prog) x0 [t9] g fun t12 g =>
  vK (unL .not t12) fun t13 =>
  ifB t13 (
  K (.tuple []) g) (
  N1 () g)) (
  K (.tuple []) g)
theorem L78_1_ok (R1 : LV × LV → Unit → LHeap → Prop) (K : LV → LHeap → Prop) (tm : Nat → LV) (g : LHeap) (h : L78_1 (tm 0) (tm 5) g (fun s g => R1 ((tm 0), (tm 5)) s g) K) : codeL Try.prog (Ok Try.prog) (nd78 [1, 0, 0]) ⟨tm, g⟩ (roundK (fun tm : Nat → LV => (tm 0, tm 5)) (fun tm : Nat → LV => ()) R1 (exitL 0 (en78 K))) := by
  try unfold L78_1 at h
  refine code2_sound ok_mono _ _ _ ?_
  refine kmp ?_ h
  generalize Ok Try.prog = C
  try unfold en78
  as_aux_lemma => kernel_rfl

noncomputable def J78_0 (x0 x5 : LV) (g : LHeap)  (K : LV → LHeap → Prop) : Prop :=
  loopP (fun s g N => L78_1 x0 x5  g N  K) () g
abbrev kj78_0  (K : LV → LHeap → Prop) : LSt → Prop := fun st => J78_0 (st.tm 0) (st.tm 5) st.g  K
theorem J78_0_ok  (K : LV → LHeap → Prop) (tm : Nat → LV) (g : LHeap) (h : J78_0 (tm 0) (tm 5) g  K) : codeL Try.prog (Ok Try.prog) (nd78 [1]) ⟨tm, g⟩ (en78 K) := by
  refine block_i (b := nd78 [1, 0]) (i := 0) (by kernel_rfl) ?_
  exact loop_glue (b := nd78 [1, 0, 0]) (by kernel_rfl) (fun tm : Nat → LV => (tm 0, tm 5)) (fun tm : Nat → LV => ()) (fun a s g N => L78_1 a.1 a.2  g N  K) (fun tm g R h => L78_1_ok R  K tm g h) tm g h

noncomputable def F78 (x0 x1 : LV) (g : LHeap) (K : LV → LHeap → Prop) : Prop :=
  vK (loadV none x1 g) fun t4 =>
  oK (rangeL Try.prog 80 t4 g) fun t5 g =>
  J78_0 x0 t5 g  K
theorem ok78 {x0 x1 : LV} {g : LHeap} {K : LV → LHeap → Prop} (h : g.Wf → (∀ v ∈ ([x0, x1] : List LV), ∀ b ∈ v.objs, b < g.next) → F78 x0 x1 g K) : Ok Try.prog 78 [x0, x1] g K := by
  refine ok_fw Try.mixed Try.func78 (by kernel_rfl) (by kernel_rfl) (c := nd78 []) (by kernel_rfl) fun wf lt => ?_
  rw [← en78_eq]
  replace h := h wf lt
  generalize hs : startL _ = tm
  replace h : F78 (tm 0) (tm 1) g K := by rw [← hs]; exact h
  refine seq_i (a := nd78 [0]) (b := nd78 [1]) (k' := kj78_0  K) (by kernel_rfl) (fun st h => J78_0_ok  K st.tm st.g h) ?_
  try unfold F78 at h
  unfold kj78_0
  generalize @J78_0 = Q78_0 at h ⊢
  refine code2_sound ok_mono _ _ _ ?_
  refine kmp ?_ h
  generalize Ok Try.prog = C
  try unfold en78
  as_aux_lemma => kernel_rfl

/-! slices.AppendSeq[[]int,int] (13 slots) -/
noncomputable def en94 (K : LV → LHeap → Prop) : LEx → LSt → Prop := fun e st => match e with
  | .exit _ => False
  | _ => K (st.tm 4) st.g
theorem en94_eq (K : LV → LHeap → Prop) : en94 K = endL Try.prog Try.f94 K := by
  funext e st
  cases e <;> kernel_rfl
noncomputable def nd94 (p : List Nat) : Code := subC p (bodyC Try.prog 94)
noncomputable def J94_1 (x2 : LV) (g : LHeap)  (K : LV → LHeap → Prop) : Prop :=
  vK (loadV none x2 g) fun t12 =>
  K t12 g
abbrev kj94_1  (K : LV → LHeap → Prop) : LSt → Prop := fun st => J94_1 (st.tm 2) st.g  K
theorem J94_1_ok  (K : LV → LHeap → Prop) (tm : Nat → LV) (g : LHeap) (h : J94_1 (tm 2) g  K) : codeL Try.prog (Ok Try.prog) (nd94 [1, 1]) ⟨tm, g⟩ (en94 K) := by
  try unfold J94_1 at h
  refine code2_sound ok_mono _ _ _ ?_
  refine kmp ?_ h
  generalize Ok Try.prog = C
  try unfold en94
  as_aux_lemma => kernel_rfl

noncomputable def B94_3 (x2 x5 : LV) (g : LHeap) (K : LV → LHeap → Prop) : Prop :=
  vK (loadV none x2 g) fun t8 =>
  oK (buildSliceL Try.prog 24 1 [(0, x5)] g) fun t10 g =>
  oK (builtinL Try.prog .append [24, 24] [t8, t10] g) fun t11 g =>
  gK (storeV 1 x2 t11 g) fun g =>
  K (.bool true) g
theorem B94_3_ok (K : LV → LHeap → Prop) (tm : Nat → LV) (g : LHeap) (h : B94_3 (tm 2) (tm 5) g K) : codeL Try.prog (Ok Try.prog) (nd94 [1, 0, 1, 0, 1]) ⟨tm, g⟩ (rkE K) := by
  try unfold B94_3 at h
  refine code2_sound ok_mono _ _ _ ?_
  refine kmp ?_ h
  generalize Ok Try.prog = C
  try unfold en94
  as_aux_lemma => kernel_rfl

noncomputable def R94_3 (x2 x7 : LV) (rl : Nat) (g : LHeap) (K : LV → LHeap → Prop) : Prop :=
  beginP rl g fun g =>
  B94_3 x2 x7 g (endK rl K)
theorem R94_3_ok (K : LV → LHeap → Prop) (tm : Nat → LV) (rl : Nat) (y0 : LV) (g : LHeap) (h : R94_3 (tm 2) y0 rl g K) : codeL Try.prog (Ok Try.prog) (nd94 [1, 0, 1, 0, 0]) ⟨putAll tm [(7, y0)], g⟩ (roundB Try.prog (Ok Try.prog) rl (nd94 [1, 0, 1, 0, 1]) K) := by
  refine round_glue (fun st => B94_3 (st.tm 2) (st.tm 5) st.g (endK rl K)) (fun st h => B94_3_ok (endK rl K) st.tm st.g h) ?_
  try unfold R94_3 at h
  refine code2_sound ok_mono _ _ _ ?_
  refine kmp ?_ h
  generalize Ok Try.prog = C
  try unfold en94
  as_aux_lemma => kernel_rfl

noncomputable def J94_2 (x2 x6 : LV) (g : LHeap)  (K : LV → LHeap → Prop) : Prop :=
  rangeP Try.prog x6 g (fun rl zs g K => ∃ y0, zs = [y0] ∧ R94_3 x2 y0 rl g K) (fun g => J94_1 x2 g  K) (fun id g => False) (fun g => False)
abbrev kj94_2  (K : LV → LHeap → Prop) : LSt → Prop := fun st => J94_2 (st.tm 2) (st.tm 6) st.g  K
theorem J94_2_ok  (K : LV → LHeap → Prop) (tm : Nat → LV) (g : LHeap) (h : J94_2 (tm 2) (tm 6) g  K) : codeL Try.prog (Ok Try.prog) (nd94 [1, 0, 1]) ⟨tm, g⟩ (thenL (kj94_1  K) (en94 K)) := by
  refine block_i (b := nd94 [1, 0, 1, 0]) (i := 0) (by kernel_rfl) ?_
  exact range_glue Try.mixed (f := .tmp 6) (ps := #[7]) (asg := nd94 [1, 0, 1, 0, 0]) (body := nd94 [1, 0, 1, 0, 1]) (by kernel_rfl) (fun tm : Nat → LV => tm 2) (fun a => (fun rl zs g K => ∃ y0, zs = [y0] ∧ R94_3 a y0 rl g K)) (fun tm rl zs g K h => by
    obtain ⟨y0, rfl, h⟩ := h
    exact ⟨rfl, R94_3_ok K tm rl y0 g h⟩) tm g (fun _ h => h) (fun _ _ h => h.elim) (fun _ h => h.elim) h

noncomputable def J94_0 (x1 x2 : LV) (g : LHeap)  (K : LV → LHeap → Prop) : Prop :=
  J94_2 x2 x1 g  K
abbrev kj94_0  (K : LV → LHeap → Prop) : LSt → Prop := fun st => J94_0 (st.tm 1) (st.tm 2) st.g  K
theorem J94_0_ok  (K : LV → LHeap → Prop) (tm : Nat → LV) (g : LHeap) (h : J94_0 (tm 1) (tm 2) g  K) : codeL Try.prog (Ok Try.prog) (nd94 [1]) ⟨tm, g⟩ (en94 K) := by
  refine seq_i (a := nd94 [1, 0]) (b := nd94 [1, 1]) (k' := kj94_1  K) (by kernel_rfl) (fun st h => J94_1_ok  K st.tm st.g h) ?_
  refine seq_i (a := nd94 [1, 0, 0]) (b := nd94 [1, 0, 1]) (k' := kj94_2  K) (by kernel_rfl) (fun st h => J94_2_ok  K st.tm st.g h) ?_
  try unfold J94_0 at h
  unfold kj94_2
  generalize @J94_2 = Q94_2 at h ⊢
  unfold kj94_1
  generalize @J94_1 = Q94_1 at h ⊢
  refine code2_sound ok_mono _ _ _ ?_
  refine kmp ?_ h
  generalize Ok Try.prog = C
  try unfold en94
  as_aux_lemma => kernel_rfl

noncomputable def F94 (x0 x1 : LV) (g : LHeap) (K : LV → LHeap → Prop) : Prop :=
  oK (newL x0 g) fun t2 g =>
  J94_0 x1 t2 g  K
theorem ok94 {x0 x1 : LV} {g : LHeap} {K : LV → LHeap → Prop} (h : g.Wf → (∀ v ∈ ([x0, x1] : List LV), ∀ b ∈ v.objs, b < g.next) → F94 x0 x1 g K) : Ok Try.prog 94 [x0, x1] g K := by
  refine ok_fw Try.mixed Try.func94 (by kernel_rfl) (by kernel_rfl) (c := nd94 []) (by kernel_rfl) fun wf lt => ?_
  rw [← en94_eq]
  replace h := h wf lt
  generalize hs : startL _ = tm
  replace h : F94 (tm 0) (tm 1) g K := by rw [← hs]; exact h
  refine seq_i (a := nd94 [0]) (b := nd94 [1]) (k' := kj94_0  K) (by kernel_rfl) (fun st h => J94_0_ok  K st.tm st.g h) ?_
  try unfold F94 at h
  unfold kj94_0
  generalize @J94_0 = Q94_0 at h ⊢
  refine code2_sound ok_mono _ _ _ ?_
  refine kmp ?_ h
  generalize Ok Try.prog = C
  try unfold en94
  as_aux_lemma => kernel_rfl

end Go.Proofs.Ytgncgokjbakdmaa
