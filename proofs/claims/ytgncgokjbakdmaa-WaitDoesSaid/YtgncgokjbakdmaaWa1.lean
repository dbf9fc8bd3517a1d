/-
  Go's own slice functions over numbers and channels.
-/
import Derived.Test.YtgncgokjbakdmaaWaP
import Derived.Test.YtgncgokjbakdmaaLm6x
set_option linter.all false
namespace Go.Proofs.Ytgncgokjbakdmaa
open Go.ChangeShapes Go.WideShapes Go.ChangeAt Go.RowKit Go.Lm
set_option linter.unusedSimpArgs false
abbrev Chan := Int × Int × Int
def chanE : Enc Chan := ⟨fun c => [i c.1, i c.2.1, i c.2.2], 3, fun _ => rfl, fun c v h => by
  simp only [List.mem_cons, List.not_mem_nil, or_false] at h
  rcases h with rfl | rfl | rfl <;> rfl, by decide⟩
theorem ty24 : Try.prog.underlying 24 = some (.slice 3) := by kernel_rfl
theorem ty30 : Try.prog.underlying 30 = some (.slice 23) := by kernel_rfl
theorem u3 : Try.prog.underlying 3 = some (.int .i64) := by kernel_rfl
theorem int_eq (d : Nat) (a b : Int) : eqTy Try.prog (d + 1) 3 (i a) (i b) = some (a == b) := by simp only [eqTy, u3, if_true]
set_option maxRecDepth 1000000 in
theorem chan_step (d : Nat) (a b c a' b' c' : Int) : eqTy Try.prog (d + 5) 23 (.agg [i a, i b, i c]) (.agg [i a', i b', i c']) =
  (match eqTy Try.prog (d + 3) 3 (i a) (i a') with
   | some true => (match eqTy Try.prog (d + 2) 3 (i b) (i b') with
     | some true => (match eqTy Try.prog (d + 1) 3 (i c) (i c') with
       | some true => some true
       | some false => some false
       | none => none)
     | some false => some false
     | none => none)
   | some false => some false
   | none => none) := by kernel_rfl
theorem chan_ty (x y : Chan) : eqTy Try.prog 60 23 (.agg (chanE.f x)) (.agg (chanE.f y)) = some (decide (x = y)) := by
  obtain ⟨a, b, c⟩ := x
  obtain ⟨a', b', c'⟩ := y
  show eqTy Try.prog (55 + 5) 23 (.agg [i a, i b, i c]) (.agg [i a', i b', i c']) = _
  rw [chan_step 55, int_eq, int_eq, int_eq]
  have e1 : (a == a') = decide (a = a') := rfl
  have e2 : (b == b') = decide (b = b') := rfl
  have e3 : (c == c') = decide (c = c') := rfl
  rw [e1, e2, e3]
  by_cases h1 : a = a' <;> by_cases h2 : b = b' <;> by_cases h3 : c = c' <;> simp [h1, h2, h3]
theorem chan_eql (x y : Chan) : eqL Try.prog 23 false (.agg (chanE.f x)) (.agg (chanE.f y)) = some (decide (x = y)) := by
  have h : eqL Try.prog 23 false (.agg (chanE.f x)) (.agg (chanE.f y)) = (if Try.prog.eqGuardType Try.prog.depth 23 then none else eqTy Try.prog 60 23 (.agg (chanE.f x)) (.agg (chanE.f y))) := rfl
  rw [h, if_neg (by rw [show Try.prog.eqGuardType Try.prog.depth 23 = false from by kernel_rfl]; decide)]
  exact chan_ty x y
theorem chan_eq (x y : Chan) : binL Try.prog .eql 23 false (.agg (chanE.f x)) (.agg (chanE.f y)) = (if x = y then some (.bool true) else some (.bool false)) := by
  have h : binL Try.prog .eql 23 false (.agg (chanE.f x)) (.agg (chanE.f y)) = (eqL Try.prog 23 false (.agg (chanE.f x)) (.agg (chanE.f y))).map .bool := rfl
  rw [h, chan_eql]
  by_cases e : x = y <;> simp [e]
theorem chan_ne (x y : Chan) : binL Try.prog .neq 23 false (.agg (chanE.f x)) (.agg (chanE.f y)) = (if x = y then some (.bool false) else some (.bool true)) := by
  have h : binL Try.prog .neq 23 false (.agg (chanE.f x)) (.agg (chanE.f y)) = (eqL Try.prog 23 false (.agg (chanE.f x)) (.agg (chanE.f y))).map fun b => .bool !b := rfl
  rw [h, chan_eql]
  by_cases e : x = y <;> simp [e]
theorem int_ne (x y : Int) : binL Try.prog .neq 3 false (i x) (i y) = (if x = y then some (.bool false) else some (.bool true)) := by
  rw [binL_neq_int]
  by_cases e : x = y <;> simp [e]

/-- The first place of an element, or -1. -/
def idxOf {X : Type} [DecidableEq X] : List X → X → Int
  | [], _ => -1
  | y :: l, x => if x = y then 0 else if idxOf l x = -1 then -1 else idxOf l x + 1
theorem idxOf_step {X : Type} [DecidableEq X] {x y : X} {l : List X} {k : Nat} (h : x ≠ y) : (if idxOf (y :: l) x = -1 then (-1 : Int) else idxOf (y :: l) x + k) = (if idxOf l x = -1 then -1 else idxOf l x + (k + 1 : Nat)) := by
  have : ∀ l : List X, -1 ≤ idxOf l x := fun l => by
    induction l with
    | nil => simp [idxOf]
    | cons y l ih => simp only [idxOf]; split; omega; split <;> omega
  have h1 := this l
  simp only [idxOf, if_neg h]
  by_cases he : idxOf l x = -1
  · simp [he]
  · rw [if_neg he, if_neg (by omega)]
    omega
theorem idxOf_mem {X : Type} [DecidableEq X] (l : List X) (x : X) : 0 ≤ idxOf l x ↔ x ∈ l := by
  induction l with
  | nil => simp [idxOf]
  | cons y l ih =>
    simp only [idxOf, List.mem_cons]
    by_cases h : x = y
    · simp [h]
    · simp only [if_neg h, h, false_or]
      by_cases he : idxOf l x = -1
      · rw [if_pos he]
        rw [he] at ih
        simpa using ih
      · rw [if_neg he, ← ih]
        have : -1 ≤ idxOf l x := by
          clear ih he
          induction l with
          | nil => simp [idxOf]
          | cons y l ih => simp only [idxOf]; split; omega; split <;> omega
        omega
/-- The first place that a test takes, or -1. -/
def firstOf {X : Type} (p : X → Bool) : List X → Int
  | [] => -1
  | y :: l => if p y = true then 0 else if firstOf p l = -1 then -1 else firstOf p l + 1
theorem firstOf_ge {X : Type} (p : X → Bool) : ∀ l : List X, -1 ≤ firstOf p l
  | [] => by simp [firstOf]
  | y :: l => by have := firstOf_ge p l; simp only [firstOf]; split; omega; split <;> omega
theorem firstOf_step {X : Type} {p : X → Bool} {y : X} {l : List X} {k : Nat} (h : p y = false) : (if firstOf p (y :: l) = -1 then (-1 : Int) else firstOf p (y :: l) + k) = (if firstOf p l = -1 then -1 else firstOf p l + (k + 1 : Nat)) := by
  have h1 := firstOf_ge p l
  simp only [firstOf, h, Bool.false_eq_true, if_false]
  by_cases he : firstOf p l = -1
  · simp [he]
  · rw [if_neg he, if_neg (by omega)]
    omega

set_option maxRecDepth 10000 in
theorem bs30_0 (h : LHeap) : buildSliceL Try.prog 30 0 [] h = some (.slice h.next 0 0 (.ex 0), h.alloc (.cells [] .ex)) := nr (by kernel_rfl)
theorem ap30 {V U : LV} (hU : U.isStr = false) (g : LHeap) : builtinL Try.prog .append [30, 30] [V, U] g = appendL 3 24 V U g := append_ok (by kernel_rfl) hU g
/-- slices.Clone -/
theorem clone42_ok {g : LHeap} {V : LV} {l} (R : Row g V chanE l) (hb : l.length * 24 * 2 ≤ 2 ^ 48) : Ok Try.prog 42 [V] g fun v h => Vec chanE g.next h v l ∧ Mine h v ∧ Fr noF g h := by
  refine ok42 fun wf lt => ?_
  rcases R.nil_or ty30 true with ⟨rfl, rfl⟩ | ⟨_, hn, _⟩
  · simp (disch := omega) only [F42, sh, nil_s ty30 true]
    exact ⟨Vec.nils _ _, trivial, Fr.refl _ _⟩
  · obtain ⟨V', h', e, O, mi, f⟩ := Vec.clone (E := chanE) (bytes := 24) R wf (.inl hb)
    have e : appendL 3 24 (.slice g.next 0 0 (.ex 0)) V (g.alloc (.cells [] .ex)) = some (V', h') := e
    simp (disch := omega) only [F42, sh, hn, bs30_0, ap30 R.not_str, e]
    exact ⟨O, mi, f⟩

set_option maxRecDepth 10000 in
theorem bs24_0 (h : LHeap) : buildSliceL Try.prog 24 0 [] h = some (.slice h.next 0 0 (.ex 0), h.alloc (.cells [] .ex)) := nr (by kernel_rfl)
theorem ap24 {V U : LV} (hU : U.isStr = false) (g : LHeap) : builtinL Try.prog .append [24, 24] [V, U] g = appendL 1 8 V U g := append_ok (by kernel_rfl) hU g
/-- slices.Clone -/
theorem clone43_ok {g : LHeap} {V : LV} {l} (R : Row g V intE l) (hb : l.length * 8 * 2 ≤ 2 ^ 48) : Ok Try.prog 43 [V] g fun v h => Vec intE g.next h v l ∧ Mine h v ∧ Fr noF g h := by
  refine ok43 fun wf lt => ?_
  rcases R.nil_or ty24 true with ⟨rfl, rfl⟩ | ⟨_, hn, _⟩
  · simp (disch := omega) only [F43, sh, nil_s ty24 true]
    exact ⟨Vec.nils _ _, trivial, Fr.refl _ _⟩
  · obtain ⟨V', h', e, O, mi, f⟩ := Vec.clone (E := intE) (bytes := 8) R wf (.inl hb)
    have e : appendL 1 8 (.slice g.next 0 0 (.ex 0)) V (g.alloc (.cells [] .ex)) = some (V', h') := e
    simp (disch := omega) only [F43, sh, hn, bs24_0, ap24 R.not_str, e]
    exact ⟨O, mi, f⟩

/-- slices.Index -/
theorem index50_ok {g : LHeap} {V : LV} {l} (R : Row g V chanE l) (hm : l.length < 9223372036854775808) (x) : Ok Try.prog 50 [V, .agg (chanE.f x)] g fun v h => v = i (idxOf l x) ∧ Fr noF g h := by
  refine ok50 fun wf lt => ?_
  have hl := R.len ty30
  have f1 : Fr noF g (g.alloc (.cells (chanE.f x) .ex)) := Fr.alloc _ _
  have hn : newL (.agg (chanE.f x)) g = some (.ptr g.next 0, g.alloc (.cells (chanE.f x) .ex)) := new_agg _ _ (chanE.cell x)
  have hx : cellO (some 3) 0 (some (.cells (chanE.f x) .ex)) = some (.agg (chanE.f x)) := by
    rw [cells_o _ _ _ _ (by rw [chanE.len]; decide), List.drop_zero, List.take_of_length_le (by rw [chanE.len]; decide)]
  simp (disch := omega) only [F50, J50_0, J50_2, i, sh, sh2, shi, dec, hn, b_len, hl]
  refine loop_n (fun n s h => ∃ k : Nat, s = i (k : Int) ∧ k + n = l.length ∧ h = g.alloc (.cells (chanE.f x) .ex) ∧ idxOf l x = (if idxOf (l.drop k) x = -1 then -1 else idxOf (l.drop k) x + k)) (n := l.length) ⟨0, rfl, by omega, rfl, by simp⟩ ?_
  rintro n s h ⟨k, rfl, hk, rfl, hi⟩
  cases n with
  | zero =>
    rw [List.drop_of_length_le (by omega)] at hi
    simp (disch := omega) only [L50_3, J50_1, i, sh, sh2, shi, dec]
    exact ⟨by rw [hi]; simp [idxOf], f1⟩
  | succ n =>
    obtain ⟨y, hy, hd⟩ := drop_at (l := l) (k := k) (by omega)
    have hix := R.ix (k := .i64) (i := k) (by omega)
    have hld := (R.up wf f1 fun _ _ => id).ld hy
    have e1 : chanE.e = 3 := rfl
    rw [e1] at hix hld
    rw [hd] at hi
    by_cases hxy : x = y
    · have hq := chan_eq x y
      rw [if_pos hxy] at hq
      simp (disch := omega) only [L50_3, i, sh, sh2, shi, dec, hix, hld, hx, hq]
      exact ⟨by rw [hi]; simp [idxOf, hxy], f1⟩
    · have hq := chan_eq x y
      rw [if_neg hxy] at hq
      simp (disch := omega) only [L50_3, i, sh, sh2, shi, dec, hix, hld, hx, hq]
      refine ⟨n, by omega, k + 1, by simp, by omega, trivial, ?_⟩
      rw [hi]
      exact idxOf_step hxy

/-- slices.Contains -/
theorem contains41_ok {g : LHeap} {V : LV} {l} (R : Row g V chanE l) (hm : l.length < 9223372036854775808) (x) : Ok Try.prog 41 [V, .agg (chanE.f x)] g fun v h => v = .bool (decide (0 ≤ idxOf l x)) ∧ Fr noF g h := by
  refine ok41 fun wf lt => ?_
  have f1 : Fr noF g (g.alloc (.cells (chanE.f x) .ex)) := Fr.alloc _ _
  have hn : newL (.agg (chanE.f x)) g = some (.ptr g.next 0, g.alloc (.cells (chanE.f x) .ex)) := new_agg _ _ (chanE.cell x)
  have hx : cellO (some 3) 0 (some (.cells (chanE.f x) .ex)) = some (.agg (chanE.f x)) := by
    rw [cells_o _ _ _ _ (by rw [chanE.len]; decide), List.drop_zero, List.take_of_length_le (by rw [chanE.len]; decide)]
  simp (disch := omega) only [F41, sh, sh2, hn, hx]
  refine (index50_ok (R.up wf f1 fun _ _ => id) hm x).mono ?_
  rintro _ h ⟨rfl, f2⟩
  simp (disch := omega) only [i, sh, sh2, shi]
  exact ⟨trivial, f1.trans' f2 fun _ _ => id⟩

set_option maxRecDepth 4000 in
/-- Are two rows the same? -/
theorem same16_ok {g : LHeap} {V U : LV} {l m} (R : Row g V intE l) (S : Row g U intE m) (hml : l.length < 9223372036854775808) : Ok Try.prog 16 [V, U] g fun v h => (∃ b, v = .bool b ∧ (b = true ↔ l = m)) ∧ h = g := by
  refine ok16 fun wf lt => ?_
  have hl := R.len ty24
  have hm := S.len ty24
  by_cases hlm : (l.length : Int) = m.length
  rotate_left
  · simp (disch := omega) only [F16, J16_0, i, sh, sh2, shi, dec, b_len, hl, hm]
    refine ⟨⟨false, rfl, ?_⟩, trivial⟩
    exact ⟨fun h => (by cases h), fun h => absurd (by rw [h]) hlm⟩
  simp (disch := omega) only [F16, J16_0, J16_1, J16_3, i, sh, sh2, shi, dec, b_len, hl, hm]
  refine loop_n (fun n s h => ∃ k : Nat, s = i (k : Int) ∧ k + n = l.length ∧ h = g ∧ (l = m ↔ l.drop k = m.drop k)) (n := l.length) ⟨0, rfl, by omega, rfl, by simp⟩ ?_
  rintro n s h ⟨k, rfl, hk, rfl, hi⟩
  cases n with
  | zero =>
    rw [List.drop_of_length_le (by omega), List.drop_of_length_le (by omega)] at hi
    simp (disch := omega) only [L16_4, J16_2, i, sh, sh2, shi, dec]
    exact ⟨⟨true, rfl, by simp [hi]⟩, trivial⟩
  | succ n =>
    obtain ⟨x, hx, hd⟩ := drop_at (l := l) (k := k) (by omega)
    obtain ⟨y, hy, hd'⟩ := drop_at (l := m) (k := k) (by omega)
    have hix := R.ix (k := .i64) (i := k) (by omega)
    have hix' := S.ix (k := .i64) (i := k) (by omega)
    have hld := R.ld1 hx rfl rfl
    have hld' := S.ld1 hy rfl rfl
    have e1 : intE.e = 1 := rfl
    rw [e1] at hix hix'
    rw [hd, hd', List.cons.injEq] at hi
    have hq := int_ne x y
    by_cases hxy : x = y
    · rw [if_pos hxy] at hq
      simp (disch := omega) only [L16_4, i, sh, sh2, dec, binL_lss_int, binL_add_int, hix, hix', hld, hld', hq]
      exact ⟨n, by omega, k + 1, by simp, by omega, trivial, by simpa [hxy] using hi⟩
    · rw [if_neg hxy] at hq
      simp (disch := omega) only [L16_4, i, sh, sh2, dec, binL_lss_int, hix, hix', hld, hld', hq]
      exact ⟨⟨false, rfl, by simp [hi, hxy]⟩, trivial⟩

set_option maxRecDepth 4000 in
/-- Are two rows the same? -/
theorem same67_ok {g : LHeap} {V U : LV} {l m} (R : Row g V chanE l) (S : Row g U chanE m) (hml : l.length < 9223372036854775808) : Ok Try.prog 67 [V, U] g fun v h => (∃ b, v = .bool b ∧ (b = true ↔ l = m)) ∧ h = g := by
  refine ok67 fun wf lt => ?_
  have hl := R.len ty30
  have hm := S.len ty30
  by_cases hlm : (l.length : Int) = m.length
  rotate_left
  · simp (disch := omega) only [F67, J67_0, i, sh, sh2, shi, dec, b_len, hl, hm]
    refine ⟨⟨false, rfl, ?_⟩, trivial⟩
    exact ⟨fun h => (by cases h), fun h => absurd (by rw [h]) hlm⟩
  simp (disch := omega) only [F67, J67_0, J67_1, J67_3, i, sh, sh2, shi, dec, b_len, hl, hm]
  refine loop_n (fun n s h => ∃ k : Nat, s = i (k : Int) ∧ k + n = l.length ∧ h = g ∧ (l = m ↔ l.drop k = m.drop k)) (n := l.length) ⟨0, rfl, by omega, rfl, by simp⟩ ?_
  rintro n s h ⟨k, rfl, hk, rfl, hi⟩
  cases n with
  | zero =>
    rw [List.drop_of_length_le (by omega), List.drop_of_length_le (by omega)] at hi
    simp (disch := omega) only [L67_4, J67_2, i, sh, sh2, shi, dec]
    exact ⟨⟨true, rfl, by simp [hi]⟩, trivial⟩
  | succ n =>
    obtain ⟨x, hx, hd⟩ := drop_at (l := l) (k := k) (by omega)
    obtain ⟨y, hy, hd'⟩ := drop_at (l := m) (k := k) (by omega)
    have hix := R.ix (k := .i64) (i := k) (by omega)
    have hix' := S.ix (k := .i64) (i := k) (by omega)
    have hld := R.ld hx
    have hld' := S.ld hy
    have e1 : chanE.e = 3 := rfl
    rw [e1] at hix hix' hld hld'
    rw [hd, hd', List.cons.injEq] at hi
    have hq := chan_ne x y
    by_cases hxy : x = y
    · rw [if_pos hxy] at hq
      simp (disch := omega) only [L67_4, i, sh, sh2, dec, binL_lss_int, binL_add_int, hix, hix', hld, hld', hq]
      exact ⟨n, by omega, k + 1, by simp, by omega, trivial, by simpa [hxy] using hi⟩
    · rw [if_neg hxy] at hq
      simp (disch := omega) only [L67_4, i, sh, sh2, dec, binL_lss_int, hix, hix', hld, hld', hq]
      exact ⟨⟨false, rfl, by simp [hi, hxy]⟩, trivial⟩

/-- slices.IndexFunc over numbers: the first that the function takes. -/
theorem indexFunc93_ok {g : LHeap} {V F : LV} {l : List Int} {p : Int → Bool} (R : Row g V intE l) (hm : l.length < 9223372036854775808) (hF : ∀ x K, K (.bool (p x)) g → callV Try.prog (Ok Try.prog) F [i x] g K) : Ok Try.prog 93 [V, F] g fun v h => v = i (firstOf p l) ∧ h = g := by
  refine ok93 fun wf lt => ?_
  have hl := R.len ty24
  simp (disch := omega) only [F93, J93_0, J93_2, i, sh, sh2, shi, dec, b_len, hl]
  refine loop_n (fun n s h => ∃ k : Nat, s = i (k : Int) ∧ k + n = l.length ∧ h = g ∧ firstOf p l = (if firstOf p (l.drop k) = -1 then -1 else firstOf p (l.drop k) + k)) (n := l.length) ⟨0, rfl, by omega, rfl, by simp⟩ ?_
  rintro n s h ⟨k, rfl, hk, rfl, hi⟩
  cases n with
  | zero =>
    rw [List.drop_of_length_le (by omega)] at hi
    simp (disch := omega) only [L93_3, J93_1, i, sh, sh2, shi, dec]
    exact ⟨by rw [hi]; simp [firstOf], trivial⟩
  | succ n =>
    obtain ⟨y, hy, hd⟩ := drop_at (l := l) (k := k) (by omega)
    have hix := R.ix (k := .i64) (i := k) (by omega)
    have hld := R.ld1 hy rfl rfl
    have e1 : intE.e = 1 := rfl
    rw [e1] at hix
    rw [hd] at hi
    simp (disch := omega) only [L93_3, i, sh, sh2, shi, dec, hix, hld]
    refine hF y _ ?_
    cases hp : p y with
    | true =>
      simp (disch := omega) only [i, sh, sh2, shi, dec]
      exact ⟨by rw [hi]; simp [firstOf, hp], trivial⟩
    | false =>
      simp (disch := omega) only [i, sh, sh2, shi, dec]
      refine ⟨n, by omega, k + 1, by simp, by omega, trivial, ?_⟩
      rw [hi]
      exact firstOf_step hp

theorem sz3 : sizeL Try.prog 3 = some 1 := by kernel_rfl
theorem zr3 : zeroL Try.prog 3 = some (i 0) := by kernel_rfl
set_option maxRecDepth 4000 in
set_option maxHeartbeats 1000000 in
/-- slices.DeleteFunc over numbers: those stay that the function does not take. -/
theorem deleteFunc75_ok {base : Nat} {g : LHeap} {V F : LV} {l : List Int} {p : Int → Bool} (O : Vec intE base g V l) (mi : Mine g V) (hm : l.length < 2 ^ 62) (hF : ∀ h x K, Fr (fun a => V.obj = some a) g h → K (.bool (p x)) h → callV Try.prog (Ok Try.prog) F [i x] h K) :
    Ok Try.prog 75 [V, F] g fun v h => Vec intE base h v (l.filter fun x => !p x) ∧ Mine h v ∧ Fr (fun a => V.obj = some a) g h ∧ (∀ a, v.obj = some a → V.obj = some a) := by
  refine ok75 fun wf lt => ?_
  have hl := O.row.len ty24
  simp (disch := omega) only [F75, J75_0, i, sh, sh2, shi, dec]
  refine (indexFunc93_ok O.row (by omega) fun x K hK => hF g x K (Fr.refl _ _) hK).mono ?_
  rintro _ h9 ⟨rfl, e9⟩
  rw [e9]
  clear e9 h9
  by_cases h1 : firstOf p l = -1
  · simp (disch := omega) only [J75_1, i, sh, sh2, shi, dec, h1]
    have : ∀ l : List Int, firstOf p l = -1 → (l.filter fun x => !p x) = l := fun l => by
      induction l with
      | nil => intro _; rfl
      | cons y l ih =>
        intro h
        simp only [firstOf] at h
        cases hp : p y with
        | true => simp [hp] at h
        | false =>
          simp only [hp, Bool.false_eq_true, if_false] at h
          have := firstOf_ge p l
          simp only [List.filter_cons, hp, Bool.not_false, if_true]
          rw [ih (by split at h <;> omega)]
    rw [this l h1]
    exact ⟨O, mi, Fr.refl _ _, fun _ h => h⟩
  have h0 := firstOf_ge p l
  obtain ⟨w0, hw0⟩ : ∃ w : Nat, firstOf p l = w := ⟨(firstOf p l).toNat, by omega⟩
  have hfirst : ∀ (l : List Int) (w : Nat), firstOf p l = w → w < l.length ∧ (l.take (w + 1)).filter (fun x => !p x) = l.take w := by
    intro l
    induction l with
    | nil => intro w h; simp [firstOf] at h
    | cons y l ih =>
      intro w h
      simp only [firstOf] at h
      cases hp : p y with
      | true =>
        simp only [hp, if_true] at h
        obtain rfl : w = 0 := by omega
        simp [hp]
      | false =>
        simp only [hp, Bool.false_eq_true, if_false] at h
        have := firstOf_ge p l
        obtain ⟨w', rfl⟩ : ∃ w', w = w' + 1 := ⟨w - 1, by split at h <;> omega⟩
        obtain ⟨e1, e2⟩ := ih w' (by split at h <;> omega)
        refine ⟨by simp; omega, ?_⟩
        simp only [List.take_succ_cons, List.filter_cons, hp, Bool.not_false, if_true]
        rw [← List.take_succ_cons (a := y)] at *
        simpa using e2
  obtain ⟨hw, hfl⟩ := hfirst l w0 hw0
  have he1 : intE.e = 1 := rfl
  rw [hw0]
  simp (disch := omega) only [J75_1, J75_2, J75_4, i, sh, sh2, shi, dec]
  refine loop_n (fun n s h => ∃ (w r : Nat) (l' : List Int), s = (i (w : Int), i (r : Int)) ∧ r + n = l.length ∧ w < r ∧ w < l.length ∧ l'.length = l.length ∧ l'.take w = (l.take r).filter (fun x => !p x) ∧ l'.drop r = l.drop r ∧ Vec intE base h V l' ∧ Mine h V ∧ Fr (fun a => V.obj = some a) g h) (n := l.length - (w0 + 1))
    ⟨w0, w0 + 1, l, by simp, by omega, by omega, hw, rfl, hfl.symm, rfl, O, mi, Fr.refl _ _⟩ ?_
  rintro n s h ⟨w, r, l', rfl, hr, hwr, hwl, hll, ht, hd, O', mi', f'⟩
  have hl' := O'.row.len ty24
  rw [hll] at hl'
  cases n with
  | zero =>
    have hcd := O'.grow.capd
    obtain ⟨U, H, e1, e2, R2, G2, m2, f2⟩ := O'.row.tailcut mi' hcd (i := w) (z := (0 : Int)) (by omega) ty24 zr3 rfl
    obtain ⟨U2, e3, R3, c3, o3, m3⟩ := R2.cut hcd (i := 0) (j := w) (by omega) (by simp; omega) none (some w) rfl rfl
    have hclr : builtinL Try.prog .clear [24] [U] h = some (undefL, H) := by
      show (clearL Try.prog 24 U h).map _ = _
      rw [e2]; rfl
    rw [he1] at e1 e3
    simp (disch := omega) only [L75_5, J75_3, i, sh, sh2, shi, dec, b_len, hl', cut_t ty24 sz3 Nat.one_ne_zero, e1, e3, hclr]
    have hres : ((l'.take w ++ List.replicate (l'.length - w) (0 : Int)).drop 0).take (w - 0) = l.filter fun x => !p x := by
      rw [List.drop_zero, Nat.sub_zero, List.take_append_of_le_length (by rw [List.length_take]; omega), List.take_take, Nat.min_self, ht, List.take_of_length_le (by omega)]
    rw [hres] at R3
    have hG : Grow H U2 1 := by
      exact cut_grow R2 (by simp; omega) (G2 O'.grow) m2 e3
    exact ⟨⟨R3, hG, fun a ha => ⟨(O'.lo a (o3 a ha)).1, Nat.lt_of_lt_of_le (O'.lo a (o3 a ha)).2 f2.le⟩⟩, m3 m2, f'.trans f2, o3⟩
  | succ n =>
    obtain ⟨x, hx, hdx⟩ := drop_at (l := l) (k := r) (by omega)
    have hx' : l'[r]? = some x := by
      have := congrArg (fun l => l[0]?) (hd.trans hdx)
      simpa using this
    have hix := O'.row.ix (k := .i64) (i := r) (by omega)
    have hld := O'.row.ld1 hx' rfl rfl
    have hixw := O'.row.ix (k := .i64) (i := w) (by omega)
    rw [he1] at hix hixw
    have htr : (l.take (r + 1)).filter (fun x => !p x) = (l.take r).filter (fun x => !p x) ++ (if p x = true then [] else [x]) := by
      rw [List.take_add_one, hx, List.filter_append]
      cases hp : p x <;> simp [hp]
    have hdr : l'.drop (r + 1) = l.drop (r + 1) := by
      have := congrArg (List.drop 1) hd
      simpa [List.drop_drop, Nat.add_comm] using this
    simp (disch := omega) only [L75_5, i, sh, sh2, shi, dec, b_len, hl', hix, hld]
    refine hF h x _ f' ?_
    cases hp : p x with
    | true =>
      simp (disch := omega) only [i, sh, sh2, shi, dec]
      refine ⟨n, by omega, w, r + 1, l', by simp, by omega, by omega, hwl, hll, ?_, hdr, O', mi', f'⟩
      rw [htr, hp, ht]; simp
    | false =>
      obtain ⟨y, hy⟩ : ∃ y, l'[w]? = some y := ⟨l'[w]'(by omega), List.getElem?_eq_getElem (by omega)⟩
      obtain ⟨a, off, vs, own, q1, q2, q3, q4, q5, q6, q7⟩ := O'.row.stf mi' (j := 0) (v := i x) (y := x) hy (by decide) rfl
      rw [he1] at q1
      have hst : storeV 1 (V.at 1 w) (i x) h = some (h.set a (.cells (vs.set (off + 0) (i x)) own)) := by
        rw [q1, store_o _ _ _ rfl, q3]; exact q4
      simp (disch := omega) only [i, sh, sh2, shi, dec, hixw, hst]
      refine ⟨n, by omega, w + 1, r + 1, l'.set w x, by simp, by omega, by omega, ?_, by simpa using hll, ?_, ?_, ⟨q5, q6 O'.grow, O'.lo⟩, q7, f'.trans (Fr.set (F := fun b => V.obj = some b) _ q2)⟩
      · omega
      · rw [htr, hp, ← ht, List.take_add_one]
        have hwl' : w < l'.length := by omega
        rw [List.take_set, List.set_eq_of_length_le (by rw [List.length_take]; omega)]
        simp [hwl']
      · rw [List.drop_set, if_pos (by omega)]; exact hdr
end Go.Proofs.Ytgncgokjbakdmaa
