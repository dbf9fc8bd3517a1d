/-
  namec: names as keys; Go's own slice functions over them; rows of numbers and bools.
-/
import Derived.Test.YthinkofjbabfbaaDoorNcQ
import Derived.Test.YthinkofjbabfbaaDoorNcR
import Derived.Test.YthinkofjbabfbaaDoorNcC
import Derived.Test.YthinkofjbabfbaaDoorLm7x
set_option linter.all false
namespace Go.Proofs.YthinkofjbabfbaaDoor
open Go.ChangeShapes Go.WideShapes Go.ChangeAt Go.RowKit Go.Lm
set_option linter.unusedSimpArgs false
set_option linter.unusedVariables false
set_option maxRecDepth 10000
abbrev NKey := Int × Str
def nameE : Enc NKey := ⟨fun c => [i c.1, .str c.2], 2, fun _ => rfl, fun c v h => by
  simp only [List.mem_cons, List.not_mem_nil, or_false] at h
  rcases h with rfl | rfl <;> rfl, by decide⟩
theorem ty51 : Tryd.prog.underlying 51 = some (.slice 42) := by kernel_rfl
theorem ty38 : Tryd.prog.underlying 38 = some (.slice 3) := by kernel_rfl
theorem ty106 : Tryd.prog.underlying 106 = some (.slice 4) := by kernel_rfl
theorem ty110 : Tryd.prog.underlying 110 = some (.map 42 114) := by kernel_rfl
theorem u3 : Tryd.prog.underlying 3 = some (.int .i64) := by kernel_rfl
theorem int_eq (d : Nat) (a b : Int) : eqTy Tryd.prog (d + 1) 3 (i a) (i b) = some (a == b) := by simp only [eqTy, u3, if_true]
theorem str_eq (d : Nat) (a b : Str) : eqTy Tryd.prog (d + 1) 9 (.str a) (.str b) = some (a == b) := by simp only [eqTy, u9]
set_option maxRecDepth 1000000 in
theorem name_step (d : Nat) (a a' : Int) (b b' : Str) : eqTy Tryd.prog (d + 5) 42 (.agg [i a, .str b]) (.agg [i a', .str b']) =
  (match eqTy Tryd.prog (d + 3) 3 (i a) (i a') with
   | some true => (match eqTy Tryd.prog (d + 2) 9 (.str b) (.str b') with
     | some true => some true
     | some false => some false
     | none => none)
   | some false => some false
   | none => none) := by kernel_rfl
theorem name_ty (x y : NKey) : eqTy Tryd.prog 60 42 (.agg (nameE.f x)) (.agg (nameE.f y)) = some (decide (x = y)) := by
  obtain ⟨a, b⟩ := x
  obtain ⟨a', b'⟩ := y
  show eqTy Tryd.prog (55 + 5) 42 (.agg [i a, .str b]) (.agg [i a', .str b']) = _
  rw [name_step 55, int_eq, str_eq]
  have e1 : (a == a') = decide (a = a') := rfl
  rw [e1]
  by_cases h1 : a = a'
  · by_cases h2 : b = b'
    · subst h1 h2; simp
    · have : (b == b') = false := beq_eq_false_iff_ne.2 h2
      rw [this]; simp [h1, h2]
  · simp [h1]
theorem name_eql (x y : NKey) : eqL Tryd.prog 42 false (.agg (nameE.f x)) (.agg (nameE.f y)) = some (decide (x = y)) := by
  have h : eqL Tryd.prog 42 false (.agg (nameE.f x)) (.agg (nameE.f y)) = (if Tryd.prog.eqGuardType Tryd.prog.depth 42 then none else eqTy Tryd.prog 60 42 (.agg (nameE.f x)) (.agg (nameE.f y))) := rfl
  rw [h, if_neg (by rw [show Tryd.prog.eqGuardType Tryd.prog.depth 42 = false from by kernel_rfl]; decide)]
  exact name_ty x y
theorem name_eqD (x y : NKey) : binL Tryd.prog .eql 42 false (.agg (nameE.f x)) (.agg (nameE.f y)) = some (.bool (decide (x = y))) := by
  have h : binL Tryd.prog .eql 42 false (.agg (nameE.f x)) (.agg (nameE.f y)) = (eqL Tryd.prog 42 false (.agg (nameE.f x)) (.agg (nameE.f y))).map .bool := rfl
  rw [h, name_eql]; rfl
theorem name_neD (x y : NKey) : binL Tryd.prog .neq 42 false (.agg (nameE.f x)) (.agg (nameE.f y)) = some (.bool (!decide (x = y))) := by
  have h : binL Tryd.prog .neq 42 false (.agg (nameE.f x)) (.agg (nameE.f y)) = (eqL Tryd.prog 42 false (.agg (nameE.f x)) (.agg (nameE.f y))).map fun b => .bool !b := rfl
  rw [h, name_eql]; rfl
def nameK : Key Tryd.prog 42 NKey := ⟨fun c => .agg (nameE.f c), fun a b => ⟨_, name_ty a b, by simp⟩, fun a => by
  obtain ⟨a, b⟩ := a
  show checkKeyL Tryd.prog 60 42 (.agg [i a, .str b]) = true
  kernel_rfl, fun a => by
  obtain ⟨a, b⟩ := a
  show sameL (.agg [i a, .str b]) (.agg [i a, .str b]) = true
  simp [sameL, sames, same1]⟩

/-- The first place of an element, or -1. -/
def idxOf {X : Type} [DecidableEq X] : List X → X → Int
  | [], _ => -1
  | y :: l, x => if x = y then 0 else if idxOf l x = -1 then -1 else idxOf l x + 1
theorem idxOf_step {X : Type} [DecidableEq X] {x y : X} {l : List X} {k : Nat} (h : x ≠ y) : (if idxOf (y :: l) x = -1 then (-1 : Int) else idxOf (y :: l) x + k) = (if idxOf l x = -1 then -1 else idxOf l x + (k + 1 : Nat)) := by
  have : ∀ l : List X, -1 ≤ idxOf l x := fun l => by
    induction l with
    | nil => simp [idxOf]
    | cons y l ih => simp only [idxOf]; split; omega; split <;> omega
  have h1 := this l
  simp only [idxOf, if_neg h]
  by_cases he : idxOf l x = -1
  · simp [he]
  · rw [if_neg he, if_neg (by omega)]
    omega
theorem idxOf_mem {X : Type} [DecidableEq X] (l : List X) (x : X) : 0 ≤ idxOf l x ↔ x ∈ l := by
  induction l with
  | nil => simp [idxOf]
  | cons y l ih =>
    simp only [idxOf, List.mem_cons]
    by_cases h : x = y
    · simp [h]
    · simp only [if_neg h, h, false_or]
      by_cases he : idxOf l x = -1
      · rw [if_pos he]
        rw [he] at ih
        simpa using ih
      · rw [if_neg he, ← ih]
        have : -1 ≤ idxOf l x := by
          clear ih he
          induction l with
          | nil => simp [idxOf]
          | cons y l ih => simp only [idxOf]; split; omega; split <;> omega
        omega
/-- The first place that a test takes, or -1. -/
def firstOf {X : Type} (p : X → Bool) : List X → Int
  | [] => -1
  | y :: l => if p y = true then 0 else if firstOf p l = -1 then -1 else firstOf p l + 1
theorem firstOf_ge {X : Type} (p : X → Bool) : ∀ l : List X, -1 ≤ firstOf p l
  | [] => by simp [firstOf]
  | y :: l => by have := firstOf_ge p l; simp only [firstOf]; split; omega; split <;> omega
theorem firstOf_step {X : Type} {p : X → Bool} {y : X} {l : List X} {k : Nat} (h : p y = false) : (if firstOf p (y :: l) = -1 then (-1 : Int) else firstOf p (y :: l) + k) = (if firstOf p l = -1 then -1 else firstOf p l + (k + 1 : Nat)) := by
  have h1 := firstOf_ge p l
  simp only [firstOf, h, Bool.false_eq_true, if_false]
  by_cases he : firstOf p l = -1
  · simp [he]
  · rw [if_neg he, if_neg (by omega)]
    omega

theorem firstOf_none {X : Type} {p : X → Bool} : ∀ l : List X, firstOf p l = -1 → (l.filter fun x => !p x) = l
  | [], _ => rfl
  | y :: l, h => by
    simp only [firstOf] at h
    cases hp : p y with
    | true => simp [hp] at h
    | false =>
      simp only [hp, Bool.false_eq_true, if_false] at h
      have := firstOf_ge p l
      simp only [List.filter_cons, hp, Bool.not_false, if_true]
      rw [firstOf_none (p := p) l (by split at h <;> omega)]
theorem firstOf_some {X : Type} {p : X → Bool} : ∀ (l : List X) (w : Nat), firstOf p l = w → w < l.length ∧ (l.take (w + 1)).filter (fun x => !p x) = l.take w
  | [], w, h => by simp [firstOf] at h
  | y :: l, w, h => by
    simp only [firstOf] at h
    cases hp : p y with
    | true =>
      simp only [hp, if_true] at h
      obtain rfl : w = 0 := by omega
      simp [hp]
    | false =>
      simp only [hp, Bool.false_eq_true, if_false] at h
      have := firstOf_ge p l
      obtain ⟨w', rfl⟩ : ∃ w', w = w' + 1 := ⟨w - 1, by split at h <;> omega⟩
      obtain ⟨e1, e2⟩ := firstOf_some (p := p) l w' (by split at h <;> omega)
      refine ⟨by simp; omega, ?_⟩
      simp only [List.take_succ_cons, List.filter_cons, hp, Bool.not_false, if_true]
      rw [← List.take_succ_cons (a := y)] at *
      simpa using e2

theorem new_st {X : Type} (E : Enc X) (zs : List LV) (hz : zs.length = E.e) (hc : zs.all LV.cell = true) (h : LHeap) (x : X) : ∃ N, newL (.agg zs) h = some (.ptr h.next 0, N) ∧ storeV E.e (.ptr h.next 0) (.agg (E.f x)) N = some (h.alloc (.cells (E.f x) .ex)) := by
  refine ⟨_, new_agg _ _ (List.all_eq_true.1 hc), ?_⟩
  rw [store_agg']
  simp only [storeCellsL, get_alloc_eq]
  rw [if_pos ⟨by decide, by rw [E.len, Nat.zero_add, hz]; exact Nat.le_refl _, List.all_eq_true.2 fun v hv => E.cell x v hv⟩, alloc_set']
  have e1 : splice zs 0 (E.f x) = E.f x := by
    unfold splice
    rw [List.take_zero, List.nil_append, List.drop_eq_nil_of_le (by rw [E.len, hz]; omega), List.append_nil]
  rw [e1]
theorem new_st59 (h : LHeap) (x : NKey) : ∃ N, newL (.agg [.int .i64 0, .str []]) h = some (.ptr h.next 0, N) ∧ storeV 2 (.ptr h.next 0) (.agg (nameE.f x)) N = some (h.alloc (.cells (nameE.f x) .ex)) := new_st nameE _ rfl rfl h x

set_option maxRecDepth 10000 in
theorem bs51_0 (h : LHeap) : buildSliceL Tryd.prog 51 0 [] h = some (.slice h.next 0 0 (.ex 0), h.alloc (.cells [] .ex)) := nr (by kernel_rfl)
theorem ap51 {V U : LV} (hU : U.isStr = false) (g : LHeap) : builtinL Tryd.prog .append [51, 51] [V, U] g = appendL 2 24 V U g := append_ok (by kernel_rfl) hU g
/-- slices.Clone -/
theorem clone62_ok {g : LHeap} {V : LV} {l} (R : Row g V nameE l) (hb : l.length * 24 * 2 ≤ 2 ^ 48 ∨ (l.length * 5 + 2048) * 24 ≤ 2 ^ 50) : Ok Tryd.prog 62 [V] g fun v h => Vec nameE g.next h v l ∧ Mine h v ∧ Fr noF g h := by
  refine ok62 fun wf lt => ?_
  rcases R.nil_or (P := Tryd.prog) ty51 true with ⟨rfl, rfl⟩ | ⟨_, hn, _⟩
  · simp (disch := omega) only [F62, sh, nil_s (P := Tryd.prog) ty51 true]
    exact ⟨Vec.nils _ _, trivial, Fr.refl _ _⟩
  · obtain ⟨V', h', e, O, mi, f⟩ := Vec.clone (E := nameE) (bytes := 24) R wf hb
    have e : appendL 2 24 (.slice g.next 0 0 (.ex 0)) V (g.alloc (.cells [] .ex)) = some (V', h') := e
    simp (disch := omega) only [F62, sh, hn, bs51_0, ap51 R.not_str, e]
    exact ⟨O, mi, f⟩

/-- slices.IndexFunc: the first that the function takes. -/
theorem indexFunc96_ok {g : LHeap} {V Fv : LV} {l} {p : _ → Bool} (R : Row g V nameE l) (hlt : ∀ a, V.obj = some a → a < g.next) (hm : l.length < 9223372036854775808) (hF : ∀ h x K, Fr noF g h → (∀ h', Fr noF h h' → K (.bool (p x)) h') → callV Tryd.prog (Ok Tryd.prog) Fv [.agg (nameE.f x)] h K) : Ok Tryd.prog 96 [V, Fv] g fun v h => v = i (firstOf p l) ∧ Fr noF g h := by
  refine ok96 fun wf lt => ?_
  have hl := R.len (P := Tryd.prog) ty51
  simp (disch := omega) only [F96, J96_0, J96_2, i, sh, sh2, shi, dec, b_len, hl]
  refine loop_n (fun n s h => ∃ k : Nat, s = i (k : Int) ∧ k + n = l.length ∧ Fr noF g h ∧ firstOf p l = (if firstOf p (l.drop k) = -1 then -1 else firstOf p (l.drop k) + k)) (n := l.length) ⟨0, rfl, by omega, Fr.refl _ _, by simp⟩ ?_
  rintro n s h ⟨k, rfl, hk, fr, hi⟩
  cases n with
  | zero =>
    rw [List.drop_of_length_le (by omega)] at hi
    simp (disch := omega) only [L96_3, J96_1, i, sh, sh2, shi, dec]
    exact ⟨by rw [hi]; simp [firstOf], fr⟩
  | succ n =>
    obtain ⟨y, hy, hd⟩ := drop_at (l := l) (k := k) (by omega)
    have Rh : Row h V nameE l := R.fr fun a ha => fr.eq a (hlt a ha) id
    have hix := Rh.ix (k := .i64) (i := k) (by omega)
    have hld := Rh.ld hy
    have e1 : nameE.e = 2 := rfl
    rw [e1] at hix hld
    rw [hd] at hi
    simp (disch := omega) only [L96_3, i, sh, sh2, shi, dec, hix, hld]
    refine hF h y _ fr fun h' f' => ?_
    cases hp : p y with
    | true =>
      simp (disch := omega) only [i, sh, sh2, shi, dec]
      exact ⟨by rw [hi]; simp [firstOf, hp], fr.trans f'⟩
    | false =>
      simp (disch := omega) only [i, sh, sh2, shi, dec]
      refine ⟨n, by omega, k + 1, by simp, by omega, fr.trans f', ?_⟩
      rw [hi]
      exact firstOf_step hp

theorem sz42 : sizeL Tryd.prog 42 = some 2 := by kernel_rfl
theorem zr42 : zeroL Tryd.prog 42 = some (.agg (nameE.f ((0, []) : NKey))) := by kernel_rfl
set_option maxRecDepth 4000 in
set_option maxHeartbeats 1000000 in
/-- slices.DeleteFunc: those stay that the function does not take. -/
theorem deleteFunc59_ok {g : LHeap} {V Fv : LV} {l} {p : _ → Bool} (R : Row g V nameE l) (G : Grow g V 2) (M : Mine g V) (hlt : ∀ a, V.obj = some a → a < g.next) (hm : l.length < 2 ^ 62) (hF : ∀ h x K, Fr (fun a => V.obj = some a) g h → (∀ h', Fr noF h h' → K (.bool (p x)) h') → callV Tryd.prog (Ok Tryd.prog) Fv [.agg (nameE.f x)] h K) :
    Ok Tryd.prog 59 [V, Fv] g fun v h => Row h v nameE (l.filter fun x => !p x) ∧ Grow h v 2 ∧ Mine h v ∧ Fr (fun a => V.obj = some a) g h ∧ (∀ a, v.obj = some a → V.obj = some a) := by
  refine ok59 fun wf lt => ?_
  have hl := R.len (P := Tryd.prog) ty51
  simp (disch := omega) only [F59, J59_0, i, sh, sh2, shi, dec]
  refine (indexFunc96_ok R hlt (by omega) fun h x K fr hK => hF h x K (fr.mono fun _ _ => False.elim) hK).mono ?_
  rintro _ h9 ⟨rfl, f9⟩
  have S9 : Sep (fun a => V.obj = some a) g h9 [Thing.vec nameE V l] := (Sep.one (T := Thing.vec nameE V l) ⟨R, G, M⟩ fun a ha => ⟨ha, hlt a ha⟩).pure f9
  by_cases h1 : firstOf p l = -1
  · simp (disch := omega) only [J59_1, i, sh, sh2, shi, dec, h1]
    rw [firstOf_none l h1]
    exact ⟨S9.row 0 rfl, S9.grow 0 rfl, S9.mine 0 rfl, S9.fr, fun _ h => h⟩
  have h0 := firstOf_ge p l
  obtain ⟨w0, hw0⟩ : ∃ w : Nat, firstOf p l = w := ⟨(firstOf p l).toNat, by omega⟩
  obtain ⟨hw, hfl⟩ := firstOf_some l w0 hw0
  have he1 : nameE.e = 2 := rfl
  rw [hw0]
  simp (disch := omega) only [J59_1, J59_2, J59_4, i, sh, sh2, shi, dec]
  refine loop_n (fun n s h => ∃ (w r : Nat) (l' : List _), s = (i (w : Int), i (r : Int)) ∧ r + n = l.length ∧ w < r ∧ w < l.length ∧ l'.length = l.length ∧ l'.take w = (l.take r).filter (fun x => !p x) ∧ l'.drop r = l.drop r ∧ Sep (fun a => V.obj = some a) g h [Thing.vec nameE V l']) (n := l.length - (w0 + 1))
    ⟨w0, w0 + 1, l, by simp, by omega, by omega, hw, rfl, hfl.symm, rfl, S9⟩ ?_
  rintro n s h ⟨w, r, l', rfl, hr, hwr, hwl, hll, ht, hd, S⟩
  have hl' := (S.row 0 rfl).len (P := Tryd.prog) ty51
  rw [hll] at hl'
  cases n with
  | zero =>
    have hcd := (S.grow 0 rfl).capd
    obtain ⟨U, H, e1, e2, R2, G2, m2, f2⟩ := (S.row 0 rfl).tailcut (S.mine 0 rfl) hcd (i := w) (z := ((0, []) : NKey)) (by omega) ty51 zr42 rfl
    obtain ⟨U2, e3, R3, c3, o3, m3⟩ := R2.cut hcd (i := 0) (j := w) (by omega) (by simp; omega) none (some w) rfl rfl
    have hclr : builtinL Tryd.prog .clear [51] [U] h = some (undefL, H) := by
      show (clearL Tryd.prog 51 U h).map _ = _
      rw [e2]; rfl
    rw [he1] at e1 e3
    have hE0 : (2 : Nat) ≠ 0 := by decide
    simp (disch := omega) only [L59_5, J59_3, i, sh, sh2, shi, dec, b_len, hl', cut_t ty51 sz42 hE0, e1, e3, hclr]
    have hres : ((l'.take w ++ List.replicate (l'.length - w) (((0, []) : NKey))).drop 0).take (w - 0) = l.filter fun x => !p x := by
      rw [List.drop_zero, Nat.sub_zero, List.take_append_of_le_length (by rw [List.length_take]; omega), List.take_take, Nat.min_self, ht, List.take_of_length_le (by omega)]
    rw [hres] at R3
    exact ⟨R3, cut_grow R2 (by simp; omega) (G2 (S.grow 0 rfl)) m2 e3, m3 m2, S.fr.trans f2, o3⟩
  | succ n =>
    obtain ⟨x, hx, hdx⟩ := drop_at (l := l) (k := r) (by omega)
    have hx' : l'[r]? = some x := by
      have := congrArg (fun l => l[0]?) (hd.trans hdx)
      simpa using this
    have hix := (S.row 0 rfl).ix (k := .i64) (i := r) (by omega)
    have hld := (S.row 0 rfl).ld hx'
    have hixw := (S.row 0 rfl).ix (k := .i64) (i := w) (by omega)
    rw [he1] at hix hixw hld
    have htr : (l.take (r + 1)).filter (fun x => !p x) = (l.take r).filter (fun x => !p x) ++ (if p x = true then [] else [x]) := by
      rw [List.take_add_one, hx, List.filter_append]
      cases hp : p x <;> simp [hp]
    have hdr : l'.drop (r + 1) = l.drop (r + 1) := by
      have := congrArg (List.drop 1) hd
      simpa [List.drop_drop, Nat.add_comm] using this
    have S1 := S.new (nameE.f x)
    have hcp : cellO (some 2) 0 (some (.cells (nameE.f x) .ex)) = some (.agg (nameE.f x)) := by
      rw [cells_o _ _ _ _ (by rw [nameE.len]; decide), List.drop_zero, List.take_of_length_le (by rw [nameE.len]; decide)]
    have hnw := new_st59 h x
    simp (disch := omega) only [L59_5, i, sh, sh2, shi, dec, b_len, hl', hix, hld]
    obtain ⟨N, hn1, hn2⟩ := hnw
    simp (disch := omega) only [hn1, hn2, sh, sh2, hcp]
    refine hF _ x _ S1.fr fun h' f' => ?_
    have S2 := S1.pure f'
    have x2 := S2.cell 1 rfl
    cases hp : p x with
    | true =>
      simp (disch := omega) only [i, sh, sh2, shi, dec]
      refine ⟨n, by omega, w, r + 1, l', by simp, by omega, by omega, hwl, hll, ?_, hdr, S2.init (Ts := [Thing.vec nameE V l'])⟩
      rw [htr, hp, ht]; simp
    | false =>
      obtain ⟨H, est, S3, _, _⟩ := S2.sta 0 rfl (k := w) (by omega) x
      rw [he1] at est
      simp (disch := omega) only [i, sh, sh2, shi, dec, x2, hcp, hixw, est]
      refine ⟨n, by omega, w + 1, r + 1, l'.set w x, by simp, by omega, by omega, ?_, by simpa using hll, ?_, ?_, S3.init (Ts := [Thing.vec nameE V (l'.set w x)])⟩
      · omega
      · rw [htr, hp, ← ht, List.take_add_one]
        have hwl' : w < l'.length := by omega
        rw [List.take_set, List.set_eq_of_length_le (by rw [List.length_take]; omega)]
        simp [hwl']
      · rw [List.drop_set, if_pos (by omega)]; exact hdr

theorem eql_int3 (a b : Int) : binL Tryd.prog .eql 3 false (.int .i64 a) (.int .i64 b) = some (.bool (decide (a = b))) := by
  have : binL Tryd.prog .eql 3 false (.int .i64 a) (.int .i64 b) = some (.bool (a == b)) := nr (by kernel_rfl)
  rw [this]; rfl
theorem eql_bool4 (a b : Bool) : binL Tryd.prog .eql 4 false (.bool a) (.bool b) = some (.bool (decide (a = b))) := by cases a <;> cases b <;> kernel_rfl

theorem idx122_ok {g : LHeap} {V : LV} {l : List Int} (R : Row g V intE l) (hm : l.length < 9223372036854775808) (x : Int) : Ok Tryd.prog 122 [V, i x] g fun v h => (∃ k : Int, v = i k ∧ -1 ≤ k ∧ (0 ≤ k ↔ x ∈ l)) ∧ h = g := by
  refine ok122 fun wf lt => ?_
  have hl := fun g' => R.len (P := Tryd.prog) ty38 (g' := g')
  simp (disch := omega) only [F122, J122_0, J122_2, i, sh, sh2, shi, dec, b_len, hl]
  refine loop_n (fun n s h => ∃ k : Nat, s = i (k : Int) ∧ k + n = l.length ∧ h = g ∧ x ∉ l.take k) (n := l.length) ⟨0, rfl, by omega, rfl, by simp⟩ ?_
  rintro n s h ⟨k, rfl, hk, rfl, no⟩
  cases n with
  | zero =>
    rw [List.take_of_length_le (by omega)] at no
    simp (disch := omega) only [L122_3, J122_1, i, sh, sh2, shi, dec]
    exact ⟨⟨-1, rfl, by omega, by simp [no]⟩, trivial⟩
  | succ n =>
    obtain ⟨y, hy, _⟩ := drop_at (l := l) (k := k) (by omega)
    have ix := R.ix (k := .i64) (i := k) (by omega)
    have ld := R.ld1 hy rfl rfl
    have e1 : intE.e = 1 := rfl
    rw [e1] at ix
    have eq := eql_int3 x y
    simp (disch := omega) only [L122_3, i, sh, sh2, shi, dec, ix, ld, eq]
    by_cases hxy : x = y
    · rw [decide_eq_true hxy]
      simp (disch := omega) only [i, sh, sh2, shi, dec]
      exact ⟨⟨k, rfl, by omega, by simp [hxy, List.mem_of_getElem? hy]⟩, trivial⟩
    · rw [decide_eq_false hxy]
      simp (disch := omega) only [i, sh, sh2, shi, dec]
      exact ⟨n, by omega, k + 1, by simp, by omega, trivial, by rw [take_snoc hy]; simp [no, hxy]⟩
theorem contains95_ok {g : LHeap} {V : LV} {l : List Int} (R : Row g V intE l) (hm : l.length < 9223372036854775808) (x : Int) : Ok Tryd.prog 95 [V, i x] g fun v h => v = .bool (decide (x ∈ l)) ∧ h = g := by
  refine ok95 fun wf lt => ?_
  simp only [F95]
  refine (idx122_ok R hm x).mono ?_
  rintro _ _ ⟨⟨k, rfl, h1, h2⟩, rfl⟩
  by_cases hx : x ∈ l
  · have := h2.2 hx
    rw [decide_eq_true hx]
    simp (disch := omega) only [i, sh, sh2, shi, dec]
    exact ⟨trivial, trivial⟩
  · have : ¬ 0 ≤ k := fun h => hx (h2.1 h)
    rw [decide_eq_false hx]
    simp (disch := omega) only [i, sh, sh2, shi, dec]
    exact ⟨trivial, trivial⟩

theorem idx97_ok {g : LHeap} {V : LV} {l : List Bool} (R : Row g V boolE l) (hm : l.length < 9223372036854775808) (x : Bool) : Ok Tryd.prog 97 [V, .bool x] g fun v h => (∃ k : Int, v = i k ∧ -1 ≤ k ∧ (0 ≤ k ↔ x ∈ l)) ∧ h = g := by
  refine ok97 fun wf lt => ?_
  have hl := fun g' => R.len (P := Tryd.prog) ty106 (g' := g')
  simp (disch := omega) only [F97, J97_0, J97_2, i, sh, sh2, shi, dec, b_len, hl]
  refine loop_n (fun n s h => ∃ k : Nat, s = i (k : Int) ∧ k + n = l.length ∧ h = g ∧ x ∉ l.take k) (n := l.length) ⟨0, rfl, by omega, rfl, by simp⟩ ?_
  rintro n s h ⟨k, rfl, hk, rfl, no⟩
  cases n with
  | zero =>
    rw [List.take_of_length_le (by omega)] at no
    simp (disch := omega) only [L97_3, J97_1, i, sh, sh2, shi, dec]
    exact ⟨⟨-1, rfl, by omega, by simp [no]⟩, trivial⟩
  | succ n =>
    obtain ⟨y, hy, _⟩ := drop_at (l := l) (k := k) (by omega)
    have ix := R.ix (k := .i64) (i := k) (by omega)
    have ld := R.ld1 hy rfl rfl
    have e1 : boolE.e = 1 := rfl
    rw [e1] at ix
    have eq := eql_bool4 x y
    simp (disch := omega) only [L97_3, i, sh, sh2, shi, dec, ix, ld, eq]
    by_cases hxy : x = y
    · rw [decide_eq_true hxy]
      simp (disch := omega) only [i, sh, sh2, shi, dec]
      exact ⟨⟨k, rfl, by omega, by simp [hxy, List.mem_of_getElem? hy]⟩, trivial⟩
    · rw [decide_eq_false hxy]
      simp (disch := omega) only [i, sh, sh2, shi, dec]
      exact ⟨n, by omega, k + 1, by simp, by omega, trivial, by rw [take_snoc hy]; simp [no, hxy]⟩
theorem contains64_ok {g : LHeap} {V : LV} {l : List Bool} (R : Row g V boolE l) (hm : l.length < 9223372036854775808) (x : Bool) : Ok Tryd.prog 64 [V, .bool x] g fun v h => v = .bool (decide (x ∈ l)) ∧ h = g := by
  refine ok64 fun wf lt => ?_
  simp only [F64]
  refine (idx97_ok R hm x).mono ?_
  rintro _ _ ⟨⟨k, rfl, h1, h2⟩, rfl⟩
  by_cases hx : x ∈ l
  · have := h2.2 hx
    rw [decide_eq_true hx]
    simp (disch := omega) only [i, sh, sh2, shi, dec]
    exact ⟨trivial, trivial⟩
  · have : ¬ 0 ≤ k := fun h => hx (h2.1 h)
    rw [decide_eq_false hx]
    simp (disch := omega) only [i, sh, sh2, shi, dec]
    exact ⟨trivial, trivial⟩
end Go.Proofs.YthinkofjbabfbaaDoor
