/-
  Go's own slice functions over bytes and numbers.
-/
import Derived.Test.YtoajcekgoalhjaaBfP
import Derived.Test.YtoajcekgoalhjaaLm7x
set_option linter.all false
namespace Go.Proofs.Ytoajcekgoalhjaa
open Go.ChangeShapes Go.WideShapes Go.ChangeAt Go.RowKit Go.Lm
set_option linter.unusedSimpArgs false
theorem ty33 : Try.prog.underlying 33 = some (.slice 5) := by kernel_rfl
theorem ty50 : Try.prog.underlying 50 = some (.slice 3) := by kernel_rfl
theorem u3 : Try.prog.underlying 3 = some (.int .i64) := by kernel_rfl

/-- The first place of an element, or -1. -/
def idxOf {X : Type} [DecidableEq X] : List X → X → Int
  | [], _ => -1
  | y :: l, x => if x = y then 0 else if idxOf l x = -1 then -1 else idxOf l x + 1
theorem idxOf_step {X : Type} [DecidableEq X] {x y : X} {l : List X} {k : Nat} (h : x ≠ y) : (if idxOf (y :: l) x = -1 then (-1 : Int) else idxOf (y :: l) x + k) = (if idxOf l x = -1 then -1 else idxOf l x + (k + 1 : Nat)) := by
  have : ∀ l : List X, -1 ≤ idxOf l x := fun l => by
    induction l with
    | nil => simp [idxOf]
    | cons y l ih => simp only [idxOf]; split; omega; split <;> omega
  have h1 := this l
  simp only [idxOf, if_neg h]
  by_cases he : idxOf l x = -1
  · simp [he]
  · rw [if_neg he, if_neg (by omega)]
    omega
theorem idxOf_mem {X : Type} [DecidableEq X] (l : List X) (x : X) : 0 ≤ idxOf l x ↔ x ∈ l := by
  induction l with
  | nil => simp [idxOf]
  | cons y l ih =>
    simp only [idxOf, List.mem_cons]
    by_cases h : x = y
    · simp [h]
    · simp only [if_neg h, h, false_or]
      by_cases he : idxOf l x = -1
      · rw [if_pos he]
        rw [he] at ih
        simpa using ih
      · rw [if_neg he, ← ih]
        have : -1 ≤ idxOf l x := by
          clear ih he
          induction l with
          | nil => simp [idxOf]
          | cons y l ih => simp only [idxOf]; split; omega; split <;> omega
        omega
/-- The first place that a test takes, or -1. -/
def firstOf {X : Type} (p : X → Bool) : List X → Int
  | [] => -1
  | y :: l => if p y = true then 0 else if firstOf p l = -1 then -1 else firstOf p l + 1
theorem firstOf_ge {X : Type} (p : X → Bool) : ∀ l : List X, -1 ≤ firstOf p l
  | [] => by simp [firstOf]
  | y :: l => by have := firstOf_ge p l; simp only [firstOf]; split; omega; split <;> omega
theorem firstOf_step {X : Type} {p : X → Bool} {y : X} {l : List X} {k : Nat} (h : p y = false) : (if firstOf p (y :: l) = -1 then (-1 : Int) else firstOf p (y :: l) + k) = (if firstOf p l = -1 then -1 else firstOf p l + (k + 1 : Nat)) := by
  have h1 := firstOf_ge p l
  simp only [firstOf, h, Bool.false_eq_true, if_false]
  by_cases he : firstOf p l = -1
  · simp [he]
  · rw [if_neg he, if_neg (by omega)]
    omega

set_option maxRecDepth 10000 in
theorem bs33_0 (h : LHeap) : buildSliceL Try.prog 33 0 [] h = some (.slice h.next 0 0 (.ex 0), h.alloc (.cells [] .ex)) := nr (by kernel_rfl)
theorem ap33 {V U : LV} (hU : U.isStr = false) (g : LHeap) : builtinL Try.prog .append [33, 33] [V, U] g = appendL 1 1 V U g := append_ok (by kernel_rfl) hU g
/-- slices.Clone -/
theorem clone46_ok {g : LHeap} {V : LV} {l} (R : Row g V byteE l) (hb : l.length * 1 * 2 ≤ 2 ^ 48 ∨ (l.length * 5 + 2048) * 1 ≤ 2 ^ 50) : Ok Try.prog 46 [V] g fun v h => Vec byteE g.next h v l ∧ Mine h v ∧ Fr noF g h := by
  refine ok46 fun wf lt => ?_
  rcases R.nil_or (P := Try.prog) ty33 true with ⟨rfl, rfl⟩ | ⟨_, hn, _⟩
  · simp (disch := omega) only [F46, sh, nil_s (P := Try.prog) ty33 true]
    exact ⟨Vec.nils _ _, trivial, Fr.refl _ _⟩
  · obtain ⟨V', h', e, O, mi, f⟩ := Vec.clone (E := byteE) (bytes := 1) R wf hb
    have e : appendL 1 1 (.slice g.next 0 0 (.ex 0)) V (g.alloc (.cells [] .ex)) = some (V', h') := e
    simp (disch := omega) only [F46, sh, hn, bs33_0, ap33 R.not_str, e]
    exact ⟨O, mi, f⟩

set_option maxRecDepth 10000 in
theorem bs50_0 (h : LHeap) : buildSliceL Try.prog 50 0 [] h = some (.slice h.next 0 0 (.ex 0), h.alloc (.cells [] .ex)) := nr (by kernel_rfl)
theorem ap50 {V U : LV} (hU : U.isStr = false) (g : LHeap) : builtinL Try.prog .append [50, 50] [V, U] g = appendL 1 8 V U g := append_ok (by kernel_rfl) hU g
/-- slices.Clone -/
theorem clone64_ok {g : LHeap} {V : LV} {l} (R : Row g V intE l) (hb : l.length * 8 * 2 ≤ 2 ^ 48 ∨ (l.length * 5 + 2048) * 8 ≤ 2 ^ 50) : Ok Try.prog 64 [V] g fun v h => Vec intE g.next h v l ∧ Mine h v ∧ Fr noF g h := by
  refine ok64 fun wf lt => ?_
  rcases R.nil_or (P := Try.prog) ty50 true with ⟨rfl, rfl⟩ | ⟨_, hn, _⟩
  · simp (disch := omega) only [F64, sh, nil_s (P := Try.prog) ty50 true]
    exact ⟨Vec.nils _ _, trivial, Fr.refl _ _⟩
  · obtain ⟨V', h', e, O, mi, f⟩ := Vec.clone (E := intE) (bytes := 8) R wf hb
    have e : appendL 1 8 (.slice g.next 0 0 (.ex 0)) V (g.alloc (.cells [] .ex)) = some (V', h') := e
    simp (disch := omega) only [F64, sh, hn, bs50_0, ap50 R.not_str, e]
    exact ⟨O, mi, f⟩

/-- slices.IndexFunc over numbers: the first that the function takes. -/
theorem indexFunc76_ok {g : LHeap} {V F : LV} {l : List Int} {p : Int → Bool} (R : Row g V intE l) (hm : l.length < 9223372036854775808) (hF : ∀ x K, K (.bool (p x)) g → callV Try.prog (Ok Try.prog) F [i x] g K) : Ok Try.prog 76 [V, F] g fun v h => v = i (firstOf p l) ∧ h = g := by
  refine ok76 fun wf lt => ?_
  have hl := R.len ty50
  simp (disch := omega) only [F76, J76_0, J76_2, i, sh, sh2, shi, dec, b_len, hl]
  refine loop_n (fun n s h => ∃ k : Nat, s = i (k : Int) ∧ k + n = l.length ∧ h = g ∧ firstOf p l = (if firstOf p (l.drop k) = -1 then -1 else firstOf p (l.drop k) + k)) (n := l.length) ⟨0, rfl, by omega, rfl, by simp⟩ ?_
  rintro n s h ⟨k, rfl, hk, rfl, hi⟩
  cases n with
  | zero =>
    rw [List.drop_of_length_le (by omega)] at hi
    simp (disch := omega) only [L76_3, J76_1, i, sh, sh2, shi, dec]
    exact ⟨by rw [hi]; simp [firstOf], trivial⟩
  | succ n =>
    obtain ⟨y, hy, hd⟩ := drop_at (l := l) (k := k) (by omega)
    have hix := R.ix (k := .i64) (i := k) (by omega)
    have hld := R.ld1 hy rfl rfl
    have e1 : intE.e = 1 := rfl
    rw [e1] at hix
    rw [hd] at hi
    simp (disch := omega) only [L76_3, i, sh, sh2, shi, dec, hix, hld]
    refine hF y _ ?_
    cases hp : p y with
    | true =>
      simp (disch := omega) only [i, sh, sh2, shi, dec]
      exact ⟨by rw [hi]; simp [firstOf, hp], trivial⟩
    | false =>
      simp (disch := omega) only [i, sh, sh2, shi, dec]
      refine ⟨n, by omega, k + 1, by simp, by omega, trivial, ?_⟩
      rw [hi]
      exact firstOf_step hp

/-- slices.IndexFunc over numbers: the first that the function takes. -/
theorem indexFuncM76_ok {g : LHeap} {V F : LV} {l : List Int} {p : Int → Bool} (R : Row g V intE l) (hm : l.length < 9223372036854775808) (hF : ∀ x K, x ∈ l → K (.bool (p x)) g → callV Try.prog (Ok Try.prog) F [i x] g K) : Ok Try.prog 76 [V, F] g fun v h => v = i (firstOf p l) ∧ h = g := by
  refine ok76 fun wf lt => ?_
  have hl := R.len ty50
  simp (disch := omega) only [F76, J76_0, J76_2, i, sh, sh2, shi, dec, b_len, hl]
  refine loop_n (fun n s h => ∃ k : Nat, s = i (k : Int) ∧ k + n = l.length ∧ h = g ∧ firstOf p l = (if firstOf p (l.drop k) = -1 then -1 else firstOf p (l.drop k) + k)) (n := l.length) ⟨0, rfl, by omega, rfl, by simp⟩ ?_
  rintro n s h ⟨k, rfl, hk, rfl, hi⟩
  cases n with
  | zero =>
    rw [List.drop_of_length_le (by omega)] at hi
    simp (disch := omega) only [L76_3, J76_1, i, sh, sh2, shi, dec]
    exact ⟨by rw [hi]; simp [firstOf], trivial⟩
  | succ n =>
    obtain ⟨y, hy, hd⟩ := drop_at (l := l) (k := k) (by omega)
    have hix := R.ix (k := .i64) (i := k) (by omega)
    have hld := R.ld1 hy rfl rfl
    have e1 : intE.e = 1 := rfl
    rw [e1] at hix
    rw [hd] at hi
    simp (disch := omega) only [L76_3, i, sh, sh2, shi, dec, hix, hld]
    refine hF y _ (List.mem_of_getElem? hy) ?_
    cases hp : p y with
    | true =>
      simp (disch := omega) only [i, sh, sh2, shi, dec]
      exact ⟨by rw [hi]; simp [firstOf, hp], trivial⟩
    | false =>
      simp (disch := omega) only [i, sh, sh2, shi, dec]
      refine ⟨n, by omega, k + 1, by simp, by omega, trivial, ?_⟩
      rw [hi]
      exact firstOf_step hp

theorem sz3 : sizeL Try.prog 3 = some 1 := by kernel_rfl
theorem zr3 : zeroL Try.prog 3 = some (i 0) := by kernel_rfl
set_option maxRecDepth 4000 in
set_option maxHeartbeats 1000000 in
/-- slices.DeleteFunc over numbers: those stay that the function does not take. -/
theorem deleteFunc79_ok {base : Nat} {g : LHeap} {V F : LV} {l : List Int} {p : Int → Bool} (O : Vec intE base g V l) (mi : Mine g V) (hm : l.length < 2 ^ 62) (hF : ∀ h x K, Fr (fun a => V.obj = some a) g h → K (.bool (p x)) h → callV Try.prog (Ok Try.prog) F [i x] h K) :
    Ok Try.prog 79 [V, F] g fun v h => Vec intE base h v (l.filter fun x => !p x) ∧ Mine h v ∧ Fr (fun a => V.obj = some a) g h ∧ (∀ a, v.obj = some a → V.obj = some a) := by
  refine ok79 fun wf lt => ?_
  have hl := O.row.len ty50
  simp (disch := omega) only [F79, J79_0, i, sh, sh2, shi, dec]
  refine (indexFunc76_ok O.row (by omega) fun x K hK => hF g x K (Fr.refl _ _) hK).mono ?_
  rintro _ h9 ⟨rfl, e9⟩
  rw [e9]
  clear e9 h9
  by_cases h1 : firstOf p l = -1
  · simp (disch := omega) only [J79_1, i, sh, sh2, shi, dec, h1]
    have : ∀ l : List Int, firstOf p l = -1 → (l.filter fun x => !p x) = l := fun l => by
      induction l with
      | nil => intro _; rfl
      | cons y l ih =>
        intro h
        simp only [firstOf] at h
        cases hp : p y with
        | true => simp [hp] at h
        | false =>
          simp only [hp, Bool.false_eq_true, if_false] at h
          have := firstOf_ge p l
          simp only [List.filter_cons, hp, Bool.not_false, if_true]
          rw [ih (by split at h <;> omega)]
    rw [this l h1]
    exact ⟨O, mi, Fr.refl _ _, fun _ h => h⟩
  have h0 := firstOf_ge p l
  obtain ⟨w0, hw0⟩ : ∃ w : Nat, firstOf p l = w := ⟨(firstOf p l).toNat, by omega⟩
  have hfirst : ∀ (l : List Int) (w : Nat), firstOf p l = w → w < l.length ∧ (l.take (w + 1)).filter (fun x => !p x) = l.take w := by
    intro l
    induction l with
    | nil => intro w h; simp [firstOf] at h
    | cons y l ih =>
      intro w h
      simp only [firstOf] at h
      cases hp : p y with
      | true =>
        simp only [hp, if_true] at h
        obtain rfl : w = 0 := by omega
        simp [hp]
      | false =>
        simp only [hp, Bool.false_eq_true, if_false] at h
        have := firstOf_ge p l
        obtain ⟨w', rfl⟩ : ∃ w', w = w' + 1 := ⟨w - 1, by split at h <;> omega⟩
        obtain ⟨e1, e2⟩ := ih w' (by split at h <;> omega)
        refine ⟨by simp; omega, ?_⟩
        simp only [List.take_succ_cons, List.filter_cons, hp, Bool.not_false, if_true]
        rw [← List.take_succ_cons (a := y)] at *
        simpa using e2
  obtain ⟨hw, hfl⟩ := hfirst l w0 hw0
  have he1 : intE.e = 1 := rfl
  rw [hw0]
  simp (disch := omega) only [J79_1, J79_2, J79_4, i, sh, sh2, shi, dec]
  refine loop_n (fun n s h => ∃ (w r : Nat) (l' : List Int), s = (i (w : Int), i (r : Int)) ∧ r + n = l.length ∧ w < r ∧ w < l.length ∧ l'.length = l.length ∧ l'.take w = (l.take r).filter (fun x => !p x) ∧ l'.drop r = l.drop r ∧ Vec intE base h V l' ∧ Mine h V ∧ Fr (fun a => V.obj = some a) g h) (n := l.length - (w0 + 1))
    ⟨w0, w0 + 1, l, by simp, by omega, by omega, hw, rfl, hfl.symm, rfl, O, mi, Fr.refl _ _⟩ ?_
  rintro n s h ⟨w, r, l', rfl, hr, hwr, hwl, hll, ht, hd, O', mi', f'⟩
  have hl' := O'.row.len ty50
  rw [hll] at hl'
  cases n with
  | zero =>
    have hcd := O'.grow.capd
    obtain ⟨U, H, e1, e2, R2, G2, m2, f2⟩ := O'.row.tailcut mi' hcd (i := w) (z := (0 : Int)) (by omega) ty50 zr3 rfl
    obtain ⟨U2, e3, R3, c3, o3, m3⟩ := R2.cut hcd (i := 0) (j := w) (by omega) (by simp; omega) none (some w) rfl rfl
    have hclr : builtinL Try.prog .clear [50] [U] h = some (undefL, H) := by
      show (clearL Try.prog 50 U h).map _ = _
      rw [e2]; rfl
    rw [he1] at e1 e3
    simp (disch := omega) only [L79_5, J79_3, i, sh, sh2, shi, dec, b_len, hl', cut_t ty50 sz3 Nat.one_ne_zero, e1, e3, hclr]
    have hres : ((l'.take w ++ List.replicate (l'.length - w) (0 : Int)).drop 0).take (w - 0) = l.filter fun x => !p x := by
      rw [List.drop_zero, Nat.sub_zero, List.take_append_of_le_length (by rw [List.length_take]; omega), List.take_take, Nat.min_self, ht, List.take_of_length_le (by omega)]
    rw [hres] at R3
    have hG : Grow H U2 1 := by
      exact cut_grow R2 (by simp; omega) (G2 O'.grow) m2 e3
    exact ⟨⟨R3, hG, fun a ha => ⟨(O'.lo a (o3 a ha)).1, Nat.lt_of_lt_of_le (O'.lo a (o3 a ha)).2 f2.le⟩⟩, m3 m2, f'.trans f2, o3⟩
  | succ n =>
    obtain ⟨x, hx, hdx⟩ := drop_at (l := l) (k := r) (by omega)
    have hx' : l'[r]? = some x := by
      have := congrArg (fun l => l[0]?) (hd.trans hdx)
      simpa using this
    have hix := O'.row.ix (k := .i64) (i := r) (by omega)
    have hld := O'.row.ld1 hx' rfl rfl
    have hixw := O'.row.ix (k := .i64) (i := w) (by omega)
    rw [he1] at hix hixw
    have htr : (l.take (r + 1)).filter (fun x => !p x) = (l.take r).filter (fun x => !p x) ++ (if p x = true then [] else [x]) := by
      rw [List.take_add_one, hx, List.filter_append]
      cases hp : p x <;> simp [hp]
    have hdr : l'.drop (r + 1) = l.drop (r + 1) := by
      have := congrArg (List.drop 1) hd
      simpa [List.drop_drop, Nat.add_comm] using this
    simp (disch := omega) only [L79_5, i, sh, sh2, shi, dec, b_len, hl', hix, hld]
    refine hF h x _ f' ?_
    cases hp : p x with
    | true =>
      simp (disch := omega) only [i, sh, sh2, shi, dec]
      refine ⟨n, by omega, w, r + 1, l', by simp, by omega, by omega, hwl, hll, ?_, hdr, O', mi', f'⟩
      rw [htr, hp, ht]; simp
    | false =>
      obtain ⟨y, hy⟩ : ∃ y, l'[w]? = some y := ⟨l'[w]'(by omega), List.getElem?_eq_getElem (by omega)⟩
      obtain ⟨a, off, vs, own, q1, q2, q3, q4, q5, q6, q7⟩ := O'.row.stf mi' (j := 0) (v := i x) (y := x) hy (by decide) rfl
      rw [he1] at q1
      have hst : storeV 1 (V.at 1 w) (i x) h = some (h.set a (.cells (vs.set (off + 0) (i x)) own)) := by
        rw [q1, store_o _ _ _ rfl, q3]; exact q4
      simp (disch := omega) only [i, sh, sh2, shi, dec, hixw, hst]
      refine ⟨n, by omega, w + 1, r + 1, l'.set w x, by simp, by omega, by omega, ?_, by simpa using hll, ?_, ?_, ⟨q5, q6 O'.grow, O'.lo⟩, q7, f'.trans (Fr.set (F := fun b => V.obj = some b) _ q2)⟩
      · omega
      · rw [htr, hp, ← ht, List.take_add_one]
        have hwl' : w < l'.length := by omega
        rw [List.take_set, List.set_eq_of_length_le (by rw [List.length_take]; omega)]
        simp [hwl']
      · rw [List.drop_set, if_pos (by omega)]; exact hdr

set_option maxRecDepth 4000 in
/-- slices.Delete -/
theorem delete78_ok {g : LHeap} {V : LV} {l} (R : Row g V intE l) (G : Grow g V 1) (M : Mine g V) {a b : Nat} (hab : a < b) (hb : b ≤ l.length) (hl : l.length * 8 * 2 ≤ 2 ^ 48 ∨ (l.length * 5 + 2048) * 8 ≤ 2 ^ 50) (hl2 : l.length < 2 ^ 62) : Ok Try.prog 78 [V, i a, i b] g fun v h =>
    Row h v intE (l.take a ++ l.drop b) ∧ Grow h v 1 ∧ Mine h v ∧ Fr (fun a => V.obj = some a) g h ∧ (∀ a, v.obj = some a → V.obj = some a) := by
  refine ok78 fun wf lt => ?_
  have hln := R.len (P := Try.prog) ty50
  obtain ⟨U0, U1, U2, W, H, U3, H', e0, e1, e2, s2, ea, el, e3, ec, R', G', M', oW, f', _⟩ := del_row (P := Try.prog) (bytes := 8) (z := (0 : Int)) R G M ty50 zr3 rfl hab hb hl
  have he1 : intE.e = 1 := rfl
  rw [he1] at e0 e1 e2 ea e3
  have hE0 : (1 : Nat) ≠ 0 := by decide
  have hclr : builtinL Try.prog .clear [50] [U3] H = some (undefL, H') := by
    show (clearL Try.prog 50 U3 H).map _ = _
    rw [ec]; rfl
  have hapd : builtinL Try.prog .append [50, 50] [U1, U2] g = some (W, H) := (ap50 s2 g).trans ea
  have hne : ¬ ((a : Int) = b) := by omega
  simp (disch := omega) only [F78, i, sh, sh2, shc, shi, dec, b_len, hln, cut_t (P := Try.prog) ty50 sz3 hE0, e0, e1, e2, hapd, el, e3, hclr]
  exact ⟨R', G', M', f', oW⟩
end Go.Proofs.Ytoajcekgoalhjaa
