/-
  Go's own slice and map functions over keys.
-/
import Derived.Test.YtgncgokjbakdmaaTlP
import Derived.Test.YtgncgokjbakdmaaLm7x
set_option linter.all false
namespace Go.Proofs.Ytgncgokjbakdmaa
open Go.ChangeShapes Go.WideShapes Go.ChangeAt Go.RowKit Go.Lm
set_option linter.unusedSimpArgs false
abbrev AKey := Int × Int
def keyE : Enc AKey := ⟨fun c => [i c.1, i c.2], 2, fun _ => rfl, fun c v h => by
  simp only [List.mem_cons, List.not_mem_nil, or_false] at h
  rcases h with rfl | rfl <;> rfl, by decide⟩
theorem ty50 : Try.prog.underlying 50 = some (.slice 41) := by kernel_rfl
theorem ty24 : Try.prog.underlying 24 = some (.slice 3) := by kernel_rfl
theorem u3 : Try.prog.underlying 3 = some (.int .i64) := by kernel_rfl

/-- The first place of an element, or -1. -/
def idxOf {X : Type} [DecidableEq X] : List X → X → Int
  | [], _ => -1
  | y :: l, x => if x = y then 0 else if idxOf l x = -1 then -1 else idxOf l x + 1
theorem idxOf_step {X : Type} [DecidableEq X] {x y : X} {l : List X} {k : Nat} (h : x ≠ y) : (if idxOf (y :: l) x = -1 then (-1 : Int) else idxOf (y :: l) x + k) = (if idxOf l x = -1 then -1 else idxOf l x + (k + 1 : Nat)) := by
  have : ∀ l : List X, -1 ≤ idxOf l x := fun l => by
    induction l with
    | nil => simp [idxOf]
    | cons y l ih => simp only [idxOf]; split; omega; split <;> omega
  have h1 := this l
  simp only [idxOf, if_neg h]
  by_cases he : idxOf l x = -1
  · simp [he]
  · rw [if_neg he, if_neg (by omega)]
    omega
theorem idxOf_mem {X : Type} [DecidableEq X] (l : List X) (x : X) : 0 ≤ idxOf l x ↔ x ∈ l := by
  induction l with
  | nil => simp [idxOf]
  | cons y l ih =>
    simp only [idxOf, List.mem_cons]
    by_cases h : x = y
    · simp [h]
    · simp only [if_neg h, h, false_or]
      by_cases he : idxOf l x = -1
      · rw [if_pos he]
        rw [he] at ih
        simpa using ih
      · rw [if_neg he, ← ih]
        have : -1 ≤ idxOf l x := by
          clear ih he
          induction l with
          | nil => simp [idxOf]
          | cons y l ih => simp only [idxOf]; split; omega; split <;> omega
        omega
/-- The first place that a test takes, or -1. -/
def firstOf {X : Type} (p : X → Bool) : List X → Int
  | [] => -1
  | y :: l => if p y = true then 0 else if firstOf p l = -1 then -1 else firstOf p l + 1
theorem firstOf_ge {X : Type} (p : X → Bool) : ∀ l : List X, -1 ≤ firstOf p l
  | [] => by simp [firstOf]
  | y :: l => by have := firstOf_ge p l; simp only [firstOf]; split; omega; split <;> omega
theorem firstOf_step {X : Type} {p : X → Bool} {y : X} {l : List X} {k : Nat} (h : p y = false) : (if firstOf p (y :: l) = -1 then (-1 : Int) else firstOf p (y :: l) + k) = (if firstOf p l = -1 then -1 else firstOf p l + (k + 1 : Nat)) := by
  have h1 := firstOf_ge p l
  simp only [firstOf, h, Bool.false_eq_true, if_false]
  by_cases he : firstOf p l = -1
  · simp [he]
  · rw [if_neg he, if_neg (by omega)]
    omega

theorem firstOf_none {X : Type} {p : X → Bool} : ∀ l : List X, firstOf p l = -1 → (l.filter fun x => !p x) = l
  | [], _ => rfl
  | y :: l, h => by
    simp only [firstOf] at h
    cases hp : p y with
    | true => simp [hp] at h
    | false =>
      simp only [hp, Bool.false_eq_true, if_false] at h
      have := firstOf_ge p l
      simp only [List.filter_cons, hp, Bool.not_false, if_true]
      rw [firstOf_none (p := p) l (by split at h <;> omega)]
theorem firstOf_some {X : Type} {p : X → Bool} : ∀ (l : List X) (w : Nat), firstOf p l = w → w < l.length ∧ (l.take (w + 1)).filter (fun x => !p x) = l.take w
  | [], w, h => by simp [firstOf] at h
  | y :: l, w, h => by
    simp only [firstOf] at h
    cases hp : p y with
    | true =>
      simp only [hp, if_true] at h
      obtain rfl : w = 0 := by omega
      simp [hp]
    | false =>
      simp only [hp, Bool.false_eq_true, if_false] at h
      have := firstOf_ge p l
      obtain ⟨w', rfl⟩ : ∃ w', w = w' + 1 := ⟨w - 1, by split at h <;> omega⟩
      obtain ⟨e1, e2⟩ := firstOf_some (p := p) l w' (by split at h <;> omega)
      refine ⟨by simp; omega, ?_⟩
      simp only [List.take_succ_cons, List.filter_cons, hp, Bool.not_false, if_true]
      rw [← List.take_succ_cons (a := y)] at *
      simpa using e2

theorem new_st71 (h : LHeap) (x : AKey) : ∃ N, newL (.agg [.int .i64 0, .int .i64 0]) h = some (.ptr h.next 0, N) ∧ storeV 2 (.ptr h.next 0) (.agg (keyE.f x)) N = some (h.alloc (.cells (keyE.f x) .ex)) := by
  obtain ⟨a, b⟩ := x
  refine ⟨_, new_agg _ _ (by simp [LV.cell]), ?_⟩
  show storeV 2 _ (.agg [i a, i b]) _ = _
  simp only [sh2, shc, i]
  rfl

set_option maxRecDepth 10000 in
theorem bs50_0 (h : LHeap) : buildSliceL Try.prog 50 0 [] h = some (.slice h.next 0 0 (.ex 0), h.alloc (.cells [] .ex)) := nr (by kernel_rfl)
theorem ap50 {V U : LV} (hU : U.isStr = false) (g : LHeap) : builtinL Try.prog .append [50, 50] [V, U] g = appendL 2 16 V U g := append_ok (by kernel_rfl) hU g
/-- slices.Clone -/
theorem clone48_ok {g : LHeap} {V : LV} {l} (R : Row g V keyE l) (hb : l.length * 16 * 2 ≤ 2 ^ 48 ∨ (l.length * 5 + 2048) * 16 ≤ 2 ^ 50) : Ok Try.prog 48 [V] g fun v h => Vec keyE g.next h v l ∧ Mine h v ∧ Fr noF g h := by
  refine ok48 fun wf lt => ?_
  rcases R.nil_or (P := Try.prog) ty50 true with ⟨rfl, rfl⟩ | ⟨_, hn, _⟩
  · simp (disch := omega) only [F48, sh, nil_s (P := Try.prog) ty50 true]
    exact ⟨Vec.nils _ _, trivial, Fr.refl _ _⟩
  · obtain ⟨V', h', e, O, mi, f⟩ := Vec.clone (E := keyE) (bytes := 16) R wf hb
    have e : appendL 2 16 (.slice g.next 0 0 (.ex 0)) V (g.alloc (.cells [] .ex)) = some (V', h') := e
    simp (disch := omega) only [F48, sh, hn, bs50_0, ap50 R.not_str, e]
    exact ⟨O, mi, f⟩

/-- slices.IndexFunc: the first that the function takes. -/
theorem indexFunc92_ok {g : LHeap} {V Fv : LV} {l} {p : _ → Bool} (R : Row g V keyE l) (hlt : ∀ a, V.obj = some a → a < g.next) (hm : l.length < 9223372036854775808) (hF : ∀ h x K, Fr noF g h → (∀ h', Fr noF h h' → K (.bool (p x)) h') → callV Try.prog (Ok Try.prog) Fv [.agg (keyE.f x)] h K) : Ok Try.prog 92 [V, Fv] g fun v h => v = i (firstOf p l) ∧ Fr noF g h := by
  refine ok92 fun wf lt => ?_
  have hl := R.len (P := Try.prog) ty50
  simp (disch := omega) only [F92, J92_0, J92_2, i, sh, sh2, shi, dec, b_len, hl]
  refine loop_n (fun n s h => ∃ k : Nat, s = i (k : Int) ∧ k + n = l.length ∧ Fr noF g h ∧ firstOf p l = (if firstOf p (l.drop k) = -1 then -1 else firstOf p (l.drop k) + k)) (n := l.length) ⟨0, rfl, by omega, Fr.refl _ _, by simp⟩ ?_
  rintro n s h ⟨k, rfl, hk, fr, hi⟩
  cases n with
  | zero =>
    rw [List.drop_of_length_le (by omega)] at hi
    simp (disch := omega) only [L92_3, J92_1, i, sh, sh2, shi, dec]
    exact ⟨by rw [hi]; simp [firstOf], fr⟩
  | succ n =>
    obtain ⟨y, hy, hd⟩ := drop_at (l := l) (k := k) (by omega)
    have Rh : Row h V keyE l := R.fr fun a ha => fr.eq a (hlt a ha) id
    have hix := Rh.ix (k := .i64) (i := k) (by omega)
    have hld := Rh.ld hy
    have e1 : keyE.e = 2 := rfl
    rw [e1] at hix hld
    rw [hd] at hi
    simp (disch := omega) only [L92_3, i, sh, sh2, shi, dec, hix, hld]
    refine hF h y _ fr fun h' f' => ?_
    cases hp : p y with
    | true =>
      simp (disch := omega) only [i, sh, sh2, shi, dec]
      exact ⟨by rw [hi]; simp [firstOf, hp], fr.trans f'⟩
    | false =>
      simp (disch := omega) only [i, sh, sh2, shi, dec]
      refine ⟨n, by omega, k + 1, by simp, by omega, fr.trans f', ?_⟩
      rw [hi]
      exact firstOf_step hp

theorem sz41 : sizeL Try.prog 41 = some 2 := by kernel_rfl
theorem zr41 : zeroL Try.prog 41 = some (.agg (keyE.f ((0, 0) : AKey))) := by kernel_rfl
set_option maxRecDepth 4000 in
set_option maxHeartbeats 1000000 in
/-- slices.DeleteFunc: those stay that the function does not take. -/
theorem deleteFunc71_ok {g : LHeap} {V Fv : LV} {l} {p : _ → Bool} (R : Row g V keyE l) (G : Grow g V 2) (M : Mine g V) (hlt : ∀ a, V.obj = some a → a < g.next) (hm : l.length < 2 ^ 62) (hF : ∀ h x K, Fr (fun a => V.obj = some a) g h → (∀ h', Fr noF h h' → K (.bool (p x)) h') → callV Try.prog (Ok Try.prog) Fv [.agg (keyE.f x)] h K) :
    Ok Try.prog 71 [V, Fv] g fun v h => Row h v keyE (l.filter fun x => !p x) ∧ Grow h v 2 ∧ Mine h v ∧ Fr (fun a => V.obj = some a) g h ∧ (∀ a, v.obj = some a → V.obj = some a) := by
  refine ok71 fun wf lt => ?_
  have hl := R.len (P := Try.prog) ty50
  simp (disch := omega) only [F71, J71_0, i, sh, sh2, shi, dec]
  refine (indexFunc92_ok R hlt (by omega) fun h x K fr hK => hF h x K (fr.mono fun _ _ => False.elim) hK).mono ?_
  rintro _ h9 ⟨rfl, f9⟩
  have S9 : Sep (fun a => V.obj = some a) g h9 [Thing.vec keyE V l] := (Sep.one (T := Thing.vec keyE V l) ⟨R, G, M⟩ fun a ha => ⟨ha, hlt a ha⟩).pure f9
  by_cases h1 : firstOf p l = -1
  · simp (disch := omega) only [J71_1, i, sh, sh2, shi, dec, h1]
    rw [firstOf_none l h1]
    exact ⟨S9.row 0 rfl, S9.grow 0 rfl, S9.mine 0 rfl, S9.fr, fun _ h => h⟩
  have h0 := firstOf_ge p l
  obtain ⟨w0, hw0⟩ : ∃ w : Nat, firstOf p l = w := ⟨(firstOf p l).toNat, by omega⟩
  obtain ⟨hw, hfl⟩ := firstOf_some l w0 hw0
  have he1 : keyE.e = 2 := rfl
  rw [hw0]
  simp (disch := omega) only [J71_1, J71_2, J71_4, i, sh, sh2, shi, dec]
  refine loop_n (fun n s h => ∃ (w r : Nat) (l' : List _), s = (i (w : Int), i (r : Int)) ∧ r + n = l.length ∧ w < r ∧ w < l.length ∧ l'.length = l.length ∧ l'.take w = (l.take r).filter (fun x => !p x) ∧ l'.drop r = l.drop r ∧ Sep (fun a => V.obj = some a) g h [Thing.vec keyE V l']) (n := l.length - (w0 + 1))
    ⟨w0, w0 + 1, l, by simp, by omega, by omega, hw, rfl, hfl.symm, rfl, S9⟩ ?_
  rintro n s h ⟨w, r, l', rfl, hr, hwr, hwl, hll, ht, hd, S⟩
  have hl' := (S.row 0 rfl).len (P := Try.prog) ty50
  rw [hll] at hl'
  cases n with
  | zero =>
    have hcd := (S.grow 0 rfl).capd
    obtain ⟨U, H, e1, e2, R2, G2, m2, f2⟩ := (S.row 0 rfl).tailcut (S.mine 0 rfl) hcd (i := w) (z := ((0, 0) : AKey)) (by omega) ty50 zr41 rfl
    obtain ⟨U2, e3, R3, c3, o3, m3⟩ := R2.cut hcd (i := 0) (j := w) (by omega) (by simp; omega) none (some w) rfl rfl
    have hclr : builtinL Try.prog .clear [50] [U] h = some (undefL, H) := by
      show (clearL Try.prog 50 U h).map _ = _
      rw [e2]; rfl
    rw [he1] at e1 e3
    have hE0 : (2 : Nat) ≠ 0 := by decide
    simp (disch := omega) only [L71_5, J71_3, i, sh, sh2, shi, dec, b_len, hl', cut_t ty50 sz41 hE0, e1, e3, hclr]
    have hres : ((l'.take w ++ List.replicate (l'.length - w) (((0, 0) : AKey))).drop 0).take (w - 0) = l.filter fun x => !p x := by
      rw [List.drop_zero, Nat.sub_zero, List.take_append_of_le_length (by rw [List.length_take]; omega), List.take_take, Nat.min_self, ht, List.take_of_length_le (by omega)]
    rw [hres] at R3
    exact ⟨R3, cut_grow R2 (by simp; omega) (G2 (S.grow 0 rfl)) m2 e3, m3 m2, S.fr.trans f2, o3⟩
  | succ n =>
    obtain ⟨x, hx, hdx⟩ := drop_at (l := l) (k := r) (by omega)
    have hx' : l'[r]? = some x := by
      have := congrArg (fun l => l[0]?) (hd.trans hdx)
      simpa using this
    have hix := (S.row 0 rfl).ix (k := .i64) (i := r) (by omega)
    have hld := (S.row 0 rfl).ld hx'
    have hixw := (S.row 0 rfl).ix (k := .i64) (i := w) (by omega)
    rw [he1] at hix hixw hld
    have htr : (l.take (r + 1)).filter (fun x => !p x) = (l.take r).filter (fun x => !p x) ++ (if p x = true then [] else [x]) := by
      rw [List.take_add_one, hx, List.filter_append]
      cases hp : p x <;> simp [hp]
    have hdr : l'.drop (r + 1) = l.drop (r + 1) := by
      have := congrArg (List.drop 1) hd
      simpa [List.drop_drop, Nat.add_comm] using this
    have S1 := S.new (keyE.f x)
    have hcp : cellO (some 2) 0 (some (.cells (keyE.f x) .ex)) = some (.agg (keyE.f x)) := by
      rw [cells_o _ _ _ _ (by rw [keyE.len]; decide), List.drop_zero, List.take_of_length_le (by rw [keyE.len]; decide)]
    have hnw := new_st71 h x
    simp (disch := omega) only [L71_5, i, sh, sh2, shi, dec, b_len, hl', hix, hld]
    obtain ⟨N, hn1, hn2⟩ := hnw
    simp (disch := omega) only [hn1, hn2, sh, sh2, hcp]
    refine hF _ x _ S1.fr fun h' f' => ?_
    have S2 := S1.pure f'
    have x2 := S2.cell 1 rfl
    cases hp : p x with
    | true =>
      simp (disch := omega) only [i, sh, sh2, shi, dec]
      refine ⟨n, by omega, w, r + 1, l', by simp, by omega, by omega, hwl, hll, ?_, hdr, S2.init (Ts := [Thing.vec keyE V l'])⟩
      rw [htr, hp, ht]; simp
    | false =>
      obtain ⟨H, est, S3, _, _⟩ := S2.sta 0 rfl (k := w) (by omega) x
      rw [he1] at est
      simp (disch := omega) only [i, sh, sh2, shi, dec, x2, hcp, hixw, est]
      refine ⟨n, by omega, w + 1, r + 1, l'.set w x, by simp, by omega, by omega, ?_, by simpa using hll, ?_, ?_, S3.init (Ts := [Thing.vec keyE V (l'.set w x)])⟩
      · omega
      · rw [htr, hp, ← ht, List.take_add_one]
        have hwl' : w < l'.length := by omega
        rw [List.take_set, List.set_eq_of_length_le (by rw [List.length_take]; omega)]
        simp [hwl']
      · rw [List.drop_set, if_pos (by omega)]; exact hdr

set_option maxRecDepth 4000 in
/-- slices.Delete -/
theorem delete45_ok {g : LHeap} {V : LV} {l} (R : Row g V keyE l) (G : Grow g V 2) (M : Mine g V) {a b : Nat} (hab : a < b) (hb : b ≤ l.length) (hl : l.length * 16 * 2 ≤ 2 ^ 48 ∨ (l.length * 5 + 2048) * 16 ≤ 2 ^ 50) (hl2 : l.length < 2 ^ 62) : Ok Try.prog 45 [V, i a, i b] g fun v h =>
    Row h v keyE (l.take a ++ l.drop b) ∧ Grow h v 2 ∧ Mine h v ∧ Fr (fun a => V.obj = some a) g h ∧ (∀ a, v.obj = some a → V.obj = some a) := by
  refine ok45 fun wf lt => ?_
  have hln := R.len (P := Try.prog) ty50
  obtain ⟨U0, U1, U2, W, H, U3, H', e0, e1, e2, s2, ea, el, e3, ec, R', G', M', oW, f', _⟩ := del_row (P := Try.prog) (bytes := 16) (z := ((0, 0) : AKey)) R G M ty50 zr41 rfl hab hb hl
  have he1 : keyE.e = 2 := rfl
  rw [he1] at e0 e1 e2 ea e3
  have hE0 : (2 : Nat) ≠ 0 := by decide
  have hclr : builtinL Try.prog .clear [50] [U3] H = some (undefL, H') := by
    show (clearL Try.prog 50 U3 H).map _ = _
    rw [ec]; rfl
  have hapd : builtinL Try.prog .append [50, 50] [U1, U2] g = some (W, H) := (ap50 s2 g).trans ea
  have hne : ¬ ((a : Int) = b) := by omega
  simp (disch := omega) only [F45, i, sh, sh2, shc, shi, dec, b_len, hln, cut_t (P := Try.prog) ty50 sz41 hE0, e0, e1, e2, hapd, el, e3, hclr]
  exact ⟨R', G', M', f', oW⟩
end Go.Proofs.Ytgncgokjbakdmaa
