/-
  Go's own slice and map functions over keys.
-/
import Derived.Test.YtfbagndfifibiaaSaP
import Derived.Test.YtfbagndfifibiaaLm7x
import Derived.Test.YtfbagndfifibiaaSrt
set_option linter.all false
namespace Go.Proofs.Ytfbagndfifibiaa
open Go.ChangeShapes Go.WideShapes Go.ChangeAt Go.RowKit Go.Lm
set_option linter.unusedSimpArgs false
abbrev AKey := Int × Int
def keyE : Enc AKey := ⟨fun c => [i c.1, i c.2], 2, fun _ => rfl, fun c v h => by
  simp only [List.mem_cons, List.not_mem_nil, or_false] at h
  rcases h with rfl | rfl <;> rfl, by decide⟩
theorem ty50T : Try.prog.underlying 78 = some (.slice 86) := by kernel_rfl
theorem ty24 : Try.prog.underlying 22 = some (.slice 3) := by kernel_rfl
theorem u3T : Try.prog.underlying 3 = some (.int .i64) := by kernel_rfl

/-- The first place of an element, or -1. -/
def idxOf {X : Type} [DecidableEq X] : List X → X → Int
  | [], _ => -1
  | y :: l, x => if x = y then 0 else if idxOf l x = -1 then -1 else idxOf l x + 1
theorem idxOf_step {X : Type} [DecidableEq X] {x y : X} {l : List X} {k : Nat} (h : x ≠ y) : (if idxOf (y :: l) x = -1 then (-1 : Int) else idxOf (y :: l) x + k) = (if idxOf l x = -1 then -1 else idxOf l x + (k + 1 : Nat)) := by
  have : ∀ l : List X, -1 ≤ idxOf l x := fun l => by
    induction l with
    | nil => simp [idxOf]
    | cons y l ih => simp only [idxOf]; split; omega; split <;> omega
  have h1 := this l
  simp only [idxOf, if_neg h]
  by_cases he : idxOf l x = -1
  · simp [he]
  · rw [if_neg he, if_neg (by omega)]
    omega
theorem idxOf_mem {X : Type} [DecidableEq X] (l : List X) (x : X) : 0 ≤ idxOf l x ↔ x ∈ l := by
  induction l with
  | nil => simp [idxOf]
  | cons y l ih =>
    simp only [idxOf, List.mem_cons]
    by_cases h : x = y
    · simp [h]
    · simp only [if_neg h, h, false_or]
      by_cases he : idxOf l x = -1
      · rw [if_pos he]
        rw [he] at ih
        simpa using ih
      · rw [if_neg he, ← ih]
        have : -1 ≤ idxOf l x := by
          clear ih he
          induction l with
          | nil => simp [idxOf]
          | cons y l ih => simp only [idxOf]; split; omega; split <;> omega
        omega
/-- The first place that a test takes, or -1. -/
def firstOfT {X : Type} (p : X → Bool) : List X → Int
  | [] => -1
  | y :: l => if p y = true then 0 else if firstOfT p l = -1 then -1 else firstOfT p l + 1
theorem firstOf_geT {X : Type} (p : X → Bool) : ∀ l : List X, -1 ≤ firstOfT p l
  | [] => by simp [firstOfT]
  | y :: l => by have := firstOf_geT p l; simp only [firstOfT]; split; omega; split <;> omega
theorem firstOf_stepT {X : Type} {p : X → Bool} {y : X} {l : List X} {k : Nat} (h : p y = false) : (if firstOfT p (y :: l) = -1 then (-1 : Int) else firstOfT p (y :: l) + k) = (if firstOfT p l = -1 then -1 else firstOfT p l + (k + 1 : Nat)) := by
  have h1 := firstOf_geT p l
  simp only [firstOfT, h, Bool.false_eq_true, if_false]
  by_cases he : firstOfT p l = -1
  · simp [he]
  · rw [if_neg he, if_neg (by omega)]
    omega

theorem firstOf_none {X : Type} {p : X → Bool} : ∀ l : List X, firstOfT p l = -1 → (l.filter fun x => !p x) = l
  | [], _ => rfl
  | y :: l, h => by
    simp only [firstOfT] at h
    cases hp : p y with
    | true => simp [hp] at h
    | false =>
      simp only [hp, Bool.false_eq_true, if_false] at h
      have := firstOf_geT p l
      simp only [List.filter_cons, hp, Bool.not_false, if_true]
      rw [firstOf_none (p := p) l (by split at h <;> omega)]
theorem firstOf_some {X : Type} {p : X → Bool} : ∀ (l : List X) (w : Nat), firstOfT p l = w → w < l.length ∧ (l.take (w + 1)).filter (fun x => !p x) = l.take w
  | [], w, h => by simp [firstOfT] at h
  | y :: l, w, h => by
    simp only [firstOfT] at h
    cases hp : p y with
    | true =>
      simp only [hp, if_true] at h
      obtain rfl : w = 0 := by omega
      simp [hp]
    | false =>
      simp only [hp, Bool.false_eq_true, if_false] at h
      have := firstOf_geT p l
      obtain ⟨w', rfl⟩ : ∃ w', w = w' + 1 := ⟨w - 1, by split at h <;> omega⟩
      obtain ⟨e1, e2⟩ := firstOf_some (p := p) l w' (by split at h <;> omega)
      refine ⟨by simp; omega, ?_⟩
      simp only [List.take_succ_cons, List.filter_cons, hp, Bool.not_false, if_true]
      rw [← List.take_succ_cons (a := y)] at *
      simpa using e2

theorem new_st71 (h : LHeap) (x : AKey) : ∃ N, newL (.agg [.int .i64 0, .int .i64 0]) h = some (.ptr h.next 0, N) ∧ storeV 2 (.ptr h.next 0) (.agg (keyE.f x)) N = some (h.alloc (.cells (keyE.f x) .ex)) := by
  obtain ⟨a, b⟩ := x
  refine ⟨_, new_agg _ _ (by simp [LV.cell]), ?_⟩
  show storeV 2 _ (.agg [i a, i b]) _ = _
  simp only [sh2, shc, i]
  rfl

set_option maxRecDepth 10000 in
theorem bs50_0T (h : LHeap) : buildSliceL Try.prog 78 0 [] h = some (.slice h.next 0 0 (.ex 0), h.alloc (.cells [] .ex)) := nr (by kernel_rfl)
theorem ap50T {V U : LV} (hU : U.isStr = false) (g : LHeap) : builtinL Try.prog .append [78, 78] [V, U] g = appendL 2 16 V U g := append_ok (by kernel_rfl) hU g
/-- slices.IndexFunc: the first that the function takes. -/
theorem indexFunc92_ok {g : LHeap} {V Fv : LV} {l} {p : _ → Bool} (R : Row g V keyE l) (hlt : ∀ a, V.obj = some a → a < g.next) (hm : l.length < 9223372036854775808) (hF : ∀ h x K, Fr noF g h → (∀ h', Fr noF h h' → K (.bool (p x)) h') → callV Try.prog (Ok Try.prog) Fv [.agg (keyE.f x)] h K) : Ok Try.prog 81 [V, Fv] g fun v h => v = i (firstOfT p l) ∧ Fr noF g h := by
  refine ok81 fun wf lt => ?_
  have hl := R.len (P := Try.prog) ty50T
  simp (disch := omega) only [F81, J81_0, J81_2, i, sh, sh2, shi, dec, b_len, hl]
  refine loop_n (fun n s h => ∃ k : Nat, s = i (k : Int) ∧ k + n = l.length ∧ Fr noF g h ∧ firstOfT p l = (if firstOfT p (l.drop k) = -1 then -1 else firstOfT p (l.drop k) + k)) (n := l.length) ⟨0, rfl, by omega, Fr.refl _ _, by simp⟩ ?_
  rintro n s h ⟨k, rfl, hk, fr, hi⟩
  cases n with
  | zero =>
    rw [List.drop_of_length_le (by omega)] at hi
    simp (disch := omega) only [L81_3, J81_1, i, sh, sh2, shi, dec]
    exact ⟨by rw [hi]; simp [firstOfT], fr⟩
  | succ n =>
    obtain ⟨y, hy, hd⟩ := drop_at (l := l) (k := k) (by omega)
    have Rh : Row h V keyE l := R.fr fun a ha => fr.eq a (hlt a ha) id
    have hix := Rh.ix (k := .i64) (i := k) (by omega)
    have hld := Rh.ld hy
    have e1 : keyE.e = 2 := rfl
    rw [e1] at hix hld
    rw [hd] at hi
    simp (disch := omega) only [L81_3, i, sh, sh2, shi, dec, hix, hld]
    refine hF h y _ fr fun h' f' => ?_
    cases hp : p y with
    | true =>
      simp (disch := omega) only [i, sh, sh2, shi, dec]
      exact ⟨by rw [hi]; simp [firstOfT, hp], fr.trans f'⟩
    | false =>
      simp (disch := omega) only [i, sh, sh2, shi, dec]
      refine ⟨n, by omega, k + 1, by simp, by omega, fr.trans f', ?_⟩
      rw [hi]
      exact firstOf_stepT hp

theorem sz41 : sizeL Try.prog 86 = some 2 := by kernel_rfl
theorem zr41 : zeroL Try.prog 86 = some (.agg (keyE.f ((0, 0) : AKey))) := by kernel_rfl
set_option maxRecDepth 4000 in
set_option maxHeartbeats 1000000 in
/-- slices.DeleteFunc: those stay that the function does not take. -/
theorem deleteFunc71_ok {g : LHeap} {V Fv : LV} {l} {p : _ → Bool} (R : Row g V keyE l) (G : Grow g V 2) (M : Mine g V) (hlt : ∀ a, V.obj = some a → a < g.next) (hm : l.length < 2 ^ 62) (hF : ∀ h x K, Fr (fun a => V.obj = some a) g h → (∀ h', Fr noF h h' → K (.bool (p x)) h') → callV Try.prog (Ok Try.prog) Fv [.agg (keyE.f x)] h K) :
    Ok Try.prog 75 [V, Fv] g fun v h => Row h v keyE (l.filter fun x => !p x) ∧ Grow h v 2 ∧ Mine h v ∧ Fr (fun a => V.obj = some a) g h ∧ (∀ a, v.obj = some a → V.obj = some a) := by
  refine ok75 fun wf lt => ?_
  have hl := R.len (P := Try.prog) ty50T
  simp (disch := omega) only [F75, J75_0, i, sh, sh2, shi, dec]
  refine (indexFunc92_ok R hlt (by omega) fun h x K fr hK => hF h x K (fr.mono fun _ _ => False.elim) hK).mono ?_
  rintro _ h9 ⟨rfl, f9⟩
  have S9 : Sep (fun a => V.obj = some a) g h9 [Thing.vec keyE V l] := (Sep.one (T := Thing.vec keyE V l) ⟨R, G, M⟩ fun a ha => ⟨ha, hlt a ha⟩).pure f9
  by_cases h1 : firstOfT p l = -1
  · simp (disch := omega) only [J75_1, i, sh, sh2, shi, dec, h1]
    rw [firstOf_none l h1]
    exact ⟨S9.row 0 rfl, S9.grow 0 rfl, S9.mine 0 rfl, S9.fr, fun _ h => h⟩
  have h0 := firstOf_geT p l
  obtain ⟨w0, hw0⟩ : ∃ w : Nat, firstOfT p l = w := ⟨(firstOfT p l).toNat, by omega⟩
  obtain ⟨hw, hfl⟩ := firstOf_some l w0 hw0
  have he1 : keyE.e = 2 := rfl
  rw [hw0]
  simp (disch := omega) only [J75_1, J75_2, J75_4, i, sh, sh2, shi, dec]
  refine loop_n (fun n s h => ∃ (w r : Nat) (l' : List _), s = (i (w : Int), i (r : Int)) ∧ r + n = l.length ∧ w < r ∧ w < l.length ∧ l'.length = l.length ∧ l'.take w = (l.take r).filter (fun x => !p x) ∧ l'.drop r = l.drop r ∧ Sep (fun a => V.obj = some a) g h [Thing.vec keyE V l']) (n := l.length - (w0 + 1))
    ⟨w0, w0 + 1, l, by simp, by omega, by omega, hw, rfl, hfl.symm, rfl, S9⟩ ?_
  rintro n s h ⟨w, r, l', rfl, hr, hwr, hwl, hll, ht, hd, S⟩
  have hl' := (S.row 0 rfl).len (P := Try.prog) ty50T
  rw [hll] at hl'
  cases n with
  | zero =>
    have hcd := (S.grow 0 rfl).capd
    obtain ⟨U, H, e1, e2, R2, G2, m2, f2⟩ := (S.row 0 rfl).tailcut (S.mine 0 rfl) hcd (i := w) (z := ((0, 0) : AKey)) (by omega) ty50T zr41 rfl
    obtain ⟨U2, e3, R3, c3, o3, m3⟩ := R2.cut hcd (i := 0) (j := w) (by omega) (by simp; omega) none (some w) rfl rfl
    have hclr : builtinL Try.prog .clear [78] [U] h = some (undefL, H) := by
      show (clearL Try.prog 78 U h).map _ = _
      rw [e2]; rfl
    rw [he1] at e1 e3
    have hE0 : (2 : Nat) ≠ 0 := by decide
    simp (disch := omega) only [L75_5, J75_3, i, sh, sh2, shi, dec, b_len, hl', cut_t ty50T sz41 hE0, e1, e3, hclr]
    have hres : ((l'.take w ++ List.replicate (l'.length - w) (((0, 0) : AKey))).drop 0).take (w - 0) = l.filter fun x => !p x := by
      rw [List.drop_zero, Nat.sub_zero, List.take_append_of_le_length (by rw [List.length_take]; omega), List.take_take, Nat.min_self, ht, List.take_of_length_le (by omega)]
    rw [hres] at R3
    exact ⟨R3, cut_grow R2 (by simp; omega) (G2 (S.grow 0 rfl)) m2 e3, m3 m2, S.fr.trans f2, o3⟩
  | succ n =>
    obtain ⟨x, hx, hdx⟩ := drop_at (l := l) (k := r) (by omega)
    have hx' : l'[r]? = some x := by
      have := congrArg (fun l => l[0]?) (hd.trans hdx)
      simpa using this
    have hix := (S.row 0 rfl).ix (k := .i64) (i := r) (by omega)
    have hld := (S.row 0 rfl).ld hx'
    have hixw := (S.row 0 rfl).ix (k := .i64) (i := w) (by omega)
    rw [he1] at hix hixw hld
    have htr : (l.take (r + 1)).filter (fun x => !p x) = (l.take r).filter (fun x => !p x) ++ (if p x = true then [] else [x]) := by
      rw [List.take_add_one, hx, List.filter_append]
      cases hp : p x <;> simp [hp]
    have hdr : l'.drop (r + 1) = l.drop (r + 1) := by
      have := congrArg (List.drop 1) hd
      simpa [List.drop_drop, Nat.add_comm] using this
    have S1 := S.new (keyE.f x)
    have hcp : cellO (some 2) 0 (some (.cells (keyE.f x) .ex)) = some (.agg (keyE.f x)) := by
      rw [cells_o _ _ _ _ (by rw [keyE.len]; decide), List.drop_zero, List.take_of_length_le (by rw [keyE.len]; decide)]
    have hnw := new_st71 h x
    simp (disch := omega) only [L75_5, i, sh, sh2, shi, dec, b_len, hl', hix, hld]
    obtain ⟨N, hn1, hn2⟩ := hnw
    simp (disch := omega) only [hn1, hn2, sh, sh2, hcp]
    refine hF _ x _ S1.fr fun h' f' => ?_
    have S2 := S1.pure f'
    have x2 := S2.cell 1 rfl
    cases hp : p x with
    | true =>
      simp (disch := omega) only [i, sh, sh2, shi, dec]
      refine ⟨n, by omega, w, r + 1, l', by simp, by omega, by omega, hwl, hll, ?_, hdr, S2.init (Ts := [Thing.vec keyE V l'])⟩
      rw [htr, hp, ht]; simp
    | false =>
      obtain ⟨H, est, S3, _, _⟩ := S2.sta 0 rfl (k := w) (by omega) x
      rw [he1] at est
      simp (disch := omega) only [i, sh, sh2, shi, dec, x2, hcp, hixw, est]
      refine ⟨n, by omega, w + 1, r + 1, l'.set w x, by simp, by omega, by omega, ?_, by simpa using hll, ?_, ?_, S3.init (Ts := [Thing.vec keyE V (l'.set w x)])⟩
      · omega
      · rw [htr, hp, ← ht, List.take_add_one]
        have hwl' : w < l'.length := by omega
        rw [List.take_set, List.set_eq_of_length_le (by rw [List.length_take]; omega)]
        simp [hwl']
      · rw [List.drop_set, if_pos (by omega)]; exact hdr

set_option maxRecDepth 4000 in
/-- slices.Delete -/
theorem delete45_ok {g : LHeap} {V : LV} {l} (R : Row g V keyE l) (G : Grow g V 2) (M : Mine g V) {a b : Nat} (hab : a < b) (hb : b ≤ l.length) (hl : l.length * 16 * 2 ≤ 2 ^ 48 ∨ (l.length * 5 + 2048) * 16 ≤ 2 ^ 50) (hl2 : l.length < 2 ^ 62) : Ok Try.prog 47 [V, i a, i b] g fun v h =>
    Row h v keyE (l.take a ++ l.drop b) ∧ Grow h v 2 ∧ Mine h v ∧ Fr (fun a => V.obj = some a) g h ∧ (∀ a, v.obj = some a → V.obj = some a) := by
  refine ok47 fun wf lt => ?_
  have hln := R.len (P := Try.prog) ty50T
  obtain ⟨U0, U1, U2, W, H, U3, H', e0, e1, e2, s2, ea, el, e3, ec, R', G', M', oW, f', _⟩ := del_row (P := Try.prog) (bytes := 16) (z := ((0, 0) : AKey)) R G M ty50T zr41 rfl hab hb hl
  have he1 : keyE.e = 2 := rfl
  rw [he1] at e0 e1 e2 ea e3
  have hE0 : (2 : Nat) ≠ 0 := by decide
  have hclr : builtinL Try.prog .clear [78] [U3] H = some (undefL, H') := by
    show (clearL Try.prog 78 U3 H).map _ = _
    rw [ec]; rfl
  have hapd : builtinL Try.prog .append [78, 78] [U1, U2] g = some (W, H) := (ap50T s2 g).trans ea
  have hne : ¬ ((a : Int) = b) := by omega
  simp (disch := omega) only [F47, i, sh, sh2, shc, shi, dec, b_len, hln, cut_t (P := Try.prog) ty50T sz41 hE0, e0, e1, e2, hapd, el, e3, hclr]
  exact ⟨R', G', M', f', oW⟩
end Go.Proofs.Ytfbagndfifibiaa

namespace Go.Proofs.Ytfbagndfifibiaa
open Go.ChangeShapes Go.WideShapes Go.ChangeAt Go.RowKit Go.Lm
set_option linter.unusedSimpArgs false
theorem int_eq (d : Nat) (a b : Int) : eqTy Try.prog (d + 1) 3 (i a) (i b) = some (a == b) := by simp only [eqTy, u3T, if_true]
set_option maxRecDepth 1000000 in
theorem key_step (d : Nat) (a b a' b' : Int) : eqTy Try.prog (d + 4) 86 (.agg [i a, i b]) (.agg [i a', i b']) =
  (match eqTy Try.prog (d + 2) 3 (i a) (i a') with
   | some true => (match eqTy Try.prog (d + 1) 3 (i b) (i b') with
     | some true => some true
     | some false => some false
     | none => none)
   | some false => some false
   | none => none) := by kernel_rfl
theorem key_ty (x y : AKey) : eqTy Try.prog 60 86 (.agg (keyE.f x)) (.agg (keyE.f y)) = some (decide (x = y)) := by
  obtain ⟨a, b⟩ := x
  obtain ⟨a', b'⟩ := y
  show eqTy Try.prog (56 + 4) 86 (.agg [i a, i b]) (.agg [i a', i b']) = _
  rw [key_step 56, int_eq, int_eq]
  have e1 : (a == a') = decide (a = a') := rfl
  have e2 : (b == b') = decide (b = b') := rfl
  rw [e1, e2]
  by_cases h1 : a = a' <;> by_cases h2 : b = b' <;> simp [h1, h2]
theorem key_eql (x y : AKey) : eqL Try.prog 86 false (.agg (keyE.f x)) (.agg (keyE.f y)) = some (decide (x = y)) := by
  have h : eqL Try.prog 86 false (.agg (keyE.f x)) (.agg (keyE.f y)) = (if Try.prog.eqGuardType Try.prog.depth 86 then none else eqTy Try.prog 60 86 (.agg (keyE.f x)) (.agg (keyE.f y))) := rfl
  rw [h, if_neg (by rw [show Try.prog.eqGuardType Try.prog.depth 86 = false from by kernel_rfl]; decide)]
  exact key_ty x y
theorem key_eq (x y : AKey) : binL Try.prog .eql 86 false (.agg (keyE.f x)) (.agg (keyE.f y)) = (if x = y then some (.bool true) else some (.bool false)) := by
  have h : binL Try.prog .eql 86 false (.agg (keyE.f x)) (.agg (keyE.f y)) = (eqL Try.prog 86 false (.agg (keyE.f x)) (.agg (keyE.f y))).map .bool := rfl
  rw [h, key_eql]
  by_cases e : x = y <;> simp [e]
theorem key_ne (x y : AKey) : binL Try.prog .neq 86 false (.agg (keyE.f x)) (.agg (keyE.f y)) = (if x = y then some (.bool false) else some (.bool true)) := by
  have h : binL Try.prog .neq 86 false (.agg (keyE.f x)) (.agg (keyE.f y)) = (eqL Try.prog 86 false (.agg (keyE.f x)) (.agg (keyE.f y))).map fun b => .bool !b := rfl
  rw [h, key_eql]
  by_cases e : x = y <;> simp [e]
def keyK : Key Try.prog 86 AKey := ⟨fun c => .agg (keyE.f c), fun a b => ⟨_, key_ty a b, by simp⟩, fun a => by
  obtain ⟨a, b⟩ := a
  show checkKeyL Try.prog 60 86 (.agg [i a, i b]) = true
  kernel_rfl, fun a => by
  obtain ⟨a, b⟩ := a
  show sameL (.agg [i a, i b]) (.agg [i a, i b]) = true
  simp [sameL, sames, same1]⟩
def intK : Key Try.prog 3 Int := ⟨fun n => i n, fun a b => ⟨_, int_eq 59 a b, by simp⟩, fun a => by kernel_rfl, fun a => by simp [sameL, same1]⟩
theorem ty94 : Try.prog.underlying 77 = some (.map 86 53) := by kernel_rfl
theorem ty91 : Try.prog.underlying 74 = some (.map 3 133) := by kernel_rfl
theorem ty36 : Try.prog.underlying 31 = some (.pointer 76) := by kernel_rfl
theorem ty90 : Try.prog.underlying 73 = some (.slice 80) := by kernel_rfl
theorem zr42 : zeroL Try.prog 53 = some (.int .u32 0) := by kernel_rfl
theorem zr101 : zeroL Try.prog 133 = some (.agg [i 0, .bool false, .bool false, .bool false, .bool false, .bool false, .bool false, .bool false, .bool false]) := by kernel_rfl
theorem keyC (a b : Int) : cellO (some 2) 0 (some (.cells [i a, i b] .ex)) = some (.agg [i a, i b]) := rfl
theorem key_o (k : AKey) : cellO (some 2) 0 (some (.cells (keyE.f k) .ex)) = some (.agg (keyE.f k)) := rfl
theorem new_key (h : LHeap) (k : AKey) : newL (.agg (keyE.f k)) h = some (.ptr h.next 0, h.alloc (.cells (keyE.f k) .ex)) := new_agg _ _ (keyE.cell k)
theorem keyK_f (k : AKey) : keyK.k k = .agg (keyE.f k) := rfl
set_option maxRecDepth 4000 in
/-- maps.DeleteFunc: those stay that the function does not take. -/
theorem mapsDelete73_ok {F : Nat → Prop} {g h : LHeap} {Ts : List Thing} {m n : Nat} {mp : AKey → Option LV} {Fv : LV} {p : AKey → Bool} (S : Sep F g h Ts) (b : Nat) (hb : Ts[b]? = some (Thing.map m keyK.k mp n))
    (hF : ∀ h1 k v K, Fr (fun a => a = m) h h1 → (∀ h2, Fr noF h1 h2 → K (.bool (p k)) h2) → callV Try.prog (Ok Try.prog) Fv [.agg (keyE.f k), v] h1 K) :
    Ok Try.prog 77 [.map m, Fv] h fun v h' => v = .tuple [] ∧ ∃ n', Sep F g h' (Ts.set b (Thing.map m keyK.k (fun k => if p k = true then none else mp k) n')) ∧ Fr (fun a => a = m) h h' := by
  refine ok77 fun wf lt => ?_
  obtain ⟨o, left, e0, S0, nd, hl, hdom⟩ := S.range b hb ty94
  simp (disch := omega) only [F77, J77_0, sh, e0]
  refine loop_n (fun nn s h1 => ∃ (left : List AKey) (n' : Nat), nn = left.length ∧ left.Nodup ∧ (∀ k ∈ left, (mp k).isSome = true) ∧ Fr (fun a => a = m) h h1 ∧ Sep F g h1 (Ts.set b (Thing.mapIt m h.next keyK.k (fun k => if k ∉ left ∧ p k = true then none else mp k) n' left))) (n := left.length)
    ⟨left, n, rfl, nd, fun k hk => (hdom k).1 hk, (Fr.alloc h o).mono fun _ _ => False.elim, ?_⟩ ?_
  · have : (fun k => if k ∉ left ∧ p k = true then none else mp k) = mp := by
      funext k
      by_cases hk : k ∈ left
      · simp [hk]
      · have : mp k = none := by
          cases hmk : mp k with
          | none => rfl
          | some v => exact absurd ((hdom k).2 (by rw [hmk]; rfl)) hk
        simp [this]
    rw [this]
    exact S0
  rintro nn s h1 ⟨left, n', rfl, nd, hdm, fr, S1⟩
  simp only [L77_1]
  refine S1.next (κ := AKey) (m := m) (r := h.next) (f := keyK.k) (n := n') (left := left) b (set_at hb) (fun he => ?_) fun k v left' h2 h3 h4 h5 h6 h7 S2 hen hn2 f2 => ?_
  · subst he
    simp (disch := omega) only [sh, sh2]
    refine ⟨trivial, n', ?_, fr⟩
    have S2 := (S1.ranged b (set_at hb)).set2
    simpa using S2
  · have S2 := S2.set2
    have nd' := h7 nd
    have hk' : k ∉ left' := fun hk => ((h6 k).1 hk).2 rfl
    have f12 : Fr (fun a => a = m) h h2 := fr.trans' f2 fun a ha e => by
      subst e
      omega
    have hmk : mp k = some v := by simpa [h3] using h4
    obtain ⟨N, hn1, hn3⟩ := new_st71 h2 k
    have S3 := S2.new (keyE.f k)
    have f13 : Fr (fun a => a = m) h (h2.alloc (.cells (keyE.f k) .ex)) := f12.alloc' _
    simp (disch := omega) only [sh, sh2, hen, hn1, hn3, key_o, keyK_f]
    refine hF _ k v _ f13 fun h4' f4 => ?_
    have S4 := S3.pure f4
    have f14 := f13.trans (f4.mono fun _ _ => False.elim)
    have x4 : h4'.get h2.next = some (.cells (keyE.f k) .ex) := (f4.eq _ (by simp) id).trans (get_alloc_eq _ _)
    have S4 := S4.init
    cases hp : p k with
    | true =>
      obtain ⟨H, ed, S5, f5⟩ := S4.idel keyK b (set_at hb) ty94 k hk' [86]
      rw [keyK_f] at ed
      simp (disch := omega) only [sh, sh2, x4, key_o, ed]
      have e : upd (fun k => if k ∉ left ∧ p k = true then none else mp k) k none = fun k => if k ∉ left' ∧ p k = true then none else mp k := by
        funext k'
        by_cases hkk : k' = k
        · subst hkk; rw [upd_at]; simp [hk', hp]
        · rw [upd_ne _ _ hkk]
          have := h6 k'
          by_cases hkl : k' ∈ left <;> simp_all
      rw [e] at S5
      exact ⟨left'.length, by omega, left', _, rfl, nd', fun k' hk' => hdm k' ((h6 k').1 hk').1, f14.trans f5, S5.set2⟩
    | false =>
      simp (disch := omega) only [sh, sh2]
      refine ⟨left'.length, by omega, left', n', rfl, nd', fun k' hk' => hdm k' ((h6 k').1 hk').1, f14, ?_⟩
      have e : (fun k => if k ∉ left ∧ p k = true then none else mp k) = fun k => if k ∉ left' ∧ p k = true then none else mp k := by
        funext k'
        by_cases hkk : k' = k
        · subst hkk; simp [hp]
        · have := h6 k'
          by_cases hkl : k' ∈ left <;> simp_all
      rw [e] at S4
      exact S4
end Go.Proofs.Ytfbagndfifibiaa

namespace Go.Proofs.Ytfbagndfifibiaa
open Go.ChangeShapes Go.WideShapes Go.ChangeAt Go.RowKit Go.Lm
set_option linter.unusedSimpArgs false
structure HX where
  m : Nat
  V : LV
  ord : List AKey
  mp : AKey → Option LV
  n : Nat
def hdE : Enc (Nat × LV) := ⟨fun s => [.map s.1, if s.2.cell then s.2 else .nils], 2, fun _ => rfl, fun s v h => by
  simp only [List.mem_cons, List.not_mem_nil, or_false] at h
  rcases h with rfl | rfl
  · rfl
  · split
    · assumption
    · rfl, by decide⟩
def HX.hd (x : HX) : Nat × LV := (x.m, x.V)
def HX.mT (x : HX) : Thing := Thing.map x.m keyK.k x.mp x.n
def HX.vT (x : HX) : Thing := Thing.vec keyE x.V x.ord
def TlTs (t : Nat) (size : Int) (HS : LV) (begun : Int) (om : Nat) (op : Int → Option LV) (no : Nat) (hs : List HX) : List Thing :=
  [Thing.cells t [i size, HS, i begun, .map om], Thing.vec hdE HS (hs.map HX.hd), Thing.map om intK.k op no] ++ (hs.map HX.mT ++ hs.map HX.vT)
section
variable {F : Nat → Prop} {g h h' : LHeap} {t om no k : Nat} {size begun : Int} {HS : LV} {op : Int → Option LV} {hs : List HX} {x : HX}
theorem tl_m (hk : hs[k]? = some x) : (TlTs t size HS begun om op no hs)[3 + k]? = some x.mT := by
  have hl := (List.getElem?_eq_some_iff.1 hk).1
  unfold TlTs
  rw [List.getElem?_append_right (by simp), List.getElem?_append_left (by simp; omega)]
  simp [hk]
theorem tl_v (hk : hs[k]? = some x) : (TlTs t size HS begun om op no hs)[3 + hs.length + k]? = some x.vT := by
  unfold TlTs
  rw [List.getElem?_append_right (by simp; omega), List.getElem?_append_right (by simp; omega)]
  have : 3 + hs.length + k - [Thing.cells t [i size, HS, i begun, .map om], Thing.vec hdE HS (hs.map HX.hd), Thing.map om intK.k op no].length - (hs.map HX.mT).length = k := by simp; omega
  rw [this]
  simp [hk]
theorem map_set_same {A B : Type} {f : A → B} {l : List A} {k : Nat} {x y : A} (hk : l[k]? = some x) (h : f y = f x) : (l.set k y).map f = l.map f := by
  obtain ⟨hl, rfl⟩ := List.getElem?_eq_some_iff.1 hk
  rw [List.map_set, h]
  apply List.ext_getElem?
  intro j
  rw [List.getElem?_set]
  split
  · rename_i e
    subst e
    simp [hl]
  · rfl
theorem tl_set_m (hk : hs[k]? = some x) (mp : AKey → Option LV) (n : Nat) : (TlTs t size HS begun om op no hs).set (3 + k) (Thing.map x.m keyK.k mp n) = TlTs t size HS begun om op no (hs.set k { x with mp := mp, n := n }) := by
  have hl := (List.getElem?_eq_some_iff.1 hk).1
  unfold TlTs
  rw [map_set_same (f := HX.hd) (y := { x with mp := mp, n := n }) hk rfl, map_set_same (f := HX.vT) (y := { x with mp := mp, n := n }) hk rfl, List.set_append_right _ _ (by simp), List.set_append_left _ _ (by simp; omega), List.map_set]
  congr 3
  simp
theorem tl_set_v (hk : hs[k]? = some x) (V : LV) (ord : List AKey) : ((TlTs t size HS begun om op no hs).set (3 + hs.length + k) (Thing.vec keyE V ord)).set 1 (Thing.vec hdE HS ((hs.map HX.hd).set k (x.m, V))) = TlTs t size HS begun om op no (hs.set k { x with V := V, ord := ord }) := by
  have hl := (List.getElem?_eq_some_iff.1 hk).1
  have e1 : (TlTs t size HS begun om op no hs).set (3 + hs.length + k) (Thing.vec keyE V ord) = [Thing.cells t [i size, HS, i begun, .map om], Thing.vec hdE HS (hs.map HX.hd), Thing.map om intK.k op no] ++ (hs.map HX.mT ++ (hs.map HX.vT).set k (Thing.vec keyE V ord)) := by
    unfold TlTs
    rw [List.set_append_right _ _ (by simp; omega), List.set_append_right _ _ (by simp; omega)]
    have e : 3 + hs.length + k - [Thing.cells t [i size, HS, i begun, .map om], Thing.vec hdE HS (hs.map HX.hd), Thing.map om intK.k op no].length - (hs.map HX.mT).length = k := by simp; omega
    rw [e]
  rw [e1, List.set_append_left _ _ (by simp)]
  unfold TlTs
  rw [map_set_same (f := HX.mT) (y := { x with V := V, ord := ord }) hk rfl, List.map_set, List.map_set]
  rfl
theorem is_ok (S : Sep F g h (TlTs t size HS begun om op no hs)) (a : Int) : Ok Try.prog 43 [.ptr t 0, i a] h fun v h' => v = .bool (decide (0 ≤ a ∧ a < hs.length)) ∧ h' = h := by
  refine ok43 fun wf lt => ?_
  have x0 := S.cell 0 rfl
  have hl := (S.row (V := HS) 1 rfl).len (P := Try.prog) ty90
  rw [List.length_map] at hl
  have harts : Ok Try.prog 25 [.ptr t 0] h fun v h' => v = i hs.length ∧ h' = h := by
    refine ok25 fun wf lt => ?_
    simp (disch := omega) only [F25, i, sh, sh2, nil_p ty36 true, x0, b_len, hl]
    exact ⟨trivial, trivial⟩
  by_cases h0 : 0 ≤ a
  · simp (disch := omega) only [F43, i, sh, sh2, shi, dec]
    refine harts.mono ?_
    rintro _ _ ⟨rfl, rfl⟩
    simp (disch := omega) only [i, sh, sh2, shi]
    exact ⟨by simp [h0], trivial⟩
  · simp (disch := omega) only [F43, i, sh, sh2, shi, dec]
    exact ⟨by simp [h0], trivial⟩
/-- What stands in a hart's row. -/
theorem hd_at {Ts : List Thing} {l : List (Nat × LV)} (S : Sep F g h Ts) (hi : Ts[1]? = some (Thing.vec hdE HS l)) {m : Nat} {V : LV} (hk : l[k]? = some (m, V)) (cV : V.cell = true) :
    ixAddrL none 2 HS (.int .i64 (k : Int)) = some (HS.at 2 k) ∧ ∃ a off, HS.at 2 k = .ptr a off ∧ cellO none off (h.get a) = some (.map m) ∧ cellO none (off + 1) (h.get a) = some V := by
  have R := S.row (V := HS) 1 hi
  obtain ⟨a, off, e, hf⟩ := R.fl hk
  refine ⟨R.ix (k := .i64) (List.getElem?_eq_some_iff.1 hk).1, a, off, e, hf 0 _ rfl, ?_⟩
  have := hf 1 _ rfl
  simpa [cV] using this
theorem clos72 {c : Nat} {sp : Int} {q : AKey} (hc : h.get c = some (.cells [i sp] .ex)) : Ok Try.prog 76 [.agg (keyE.f q), .ptr c 0] h fun v h' => v = .bool (q.1 == sp) ∧ Fr noF h h' := by
  refine ok76 fun wf lt => ?_
  have hne : (h.alloc (.cells (keyE.f q) .ex)).get c = some (.cells [i sp] .ex) := by rw [get_alloc_ne _ _ (Nat.ne_of_lt (wf.lt c _ hc))]; exact hc
  have hq : cellO none 0 (some (.cells (keyE.f q) .ex)) = some (i q.1) := rfl
  simp (disch := omega) only [F76, new_key, sh, sh2, hne, hq, i, shi]
  exact ⟨trivial, Fr.alloc _ _⟩
theorem clos74 {c : Nat} {sp : Int} {q : AKey} {v : LV} (hc : h.get c = some (.cells [i sp] .ex)) : Ok Try.prog 78 [.agg (keyE.f q), v, .ptr c 0] h fun v h' => v = .bool (q.1 == sp) ∧ Fr noF h h' := by
  refine ok78 fun wf lt => ?_
  have hne : (h.alloc (.cells (keyE.f q) .ex)).get c = some (.cells [i sp] .ex) := by rw [get_alloc_ne _ _ (Nat.ne_of_lt (wf.lt c _ hc))]; exact hc
  have hq : cellO none 0 (some (.cells (keyE.f q) .ex)) = some (i q.1) := rfl
  simp (disch := omega) only [F78, new_key, sh, sh2, hne, hq, i, shi]
  exact ⟨trivial, Fr.alloc _ _⟩
theorem cv72 (q p : LV) (h : LHeap) (K : LV → LHeap → Prop) : callV Try.prog (Ok Try.prog) (.func (.func 76) [] [p]) [q] h K = Ok Try.prog 76 [q, p] h K := callV_f (by kernel_rfl)
theorem cv74 (q v p : LV) (h : LHeap) (K : LV → LHeap → Prop) : callV Try.prog (Ok Try.prog) (.func (.func 78) [] [p]) [q, v] h K = Ok Try.prog 78 [q, v, p] h K := callV_f (by kernel_rfl)
set_option maxRecDepth 4000 in
theorem forget_ok (S : Sep F g h (TlTs t size HS begun om op no hs)) (hk : hs[k]? = some x) (hn : x.ord.length < 2 ^ 62) (sp : Int) : Ok Try.prog 69 [HS.at 2 k, i sp] h fun v h' => v = i (x.ord.length - (x.ord.filter fun q => !(q.1 == sp)).length) ∧
    ∃ V' n', Sep F g h' (TlTs t size HS begun om op no (hs.set k ⟨x.m, V', x.ord.filter fun q => !(q.1 == sp), fun q => if (q.1 == sp) = true then none else x.mp q, n'⟩)) := by
  refine ok69 fun wf lt => ?_
  have hkl := (List.getElem?_eq_some_iff.1 hk).1
  have hn0 : newL (i sp) h = some (.ptr h.next 0, h.alloc (.cells [i sp] .ex)) := new_cell _ rfl
  have S1 := S.new [i sp]
  have hd : (hs.map HX.hd)[k]? = some (x.m, x.V) := by rw [List.getElem?_map, hk]; rfl
  have iv := tl_v (t := t) (size := size) (HS := HS) (begun := begun) (om := om) (op := op) (no := no) hk
  have ivl := (List.getElem?_eq_some_iff.1 iv).1
  have im := tl_m (t := t) (size := size) (HS := HS) (begun := begun) (om := om) (op := op) (no := no) hk
  have iml := (List.getElem?_eq_some_iff.1 im).1
  have iv1 : (TlTs t size HS begun om op no hs ++ [Thing.cells h.next [i sp]])[3 + hs.length + k]? = some (Thing.vec keyE x.V x.ord) := by rw [List.getElem?_append_left ivl]; exact iv
  have il : (TlTs t size HS begun om op no hs ++ [Thing.cells h.next [i sp]])[(TlTs t size HS begun om op no hs).length]? = some (Thing.cells h.next [i sp]) := by simp
  have RV := S1.row (3 + hs.length + k) iv1
  have cV := RV.cell
  obtain ⟨_, a, off, hat, l0, l1⟩ := hd_at S1 rfl hd cV
  have hl1 := RV.len (P := Try.prog) ty50T
  rw [hat]
  simp (disch := omega) only [F69, hn0, i, sh, sh2, l1, b_len, hl1]
  have ltV : ∀ a, x.V.obj = some a → a < (h.alloc (.cells [i sp] .ex)).next := fun b hb => S1.lt (3 + hs.length + k) iv1 hb
  have neV : x.V.obj ≠ some h.next := fun e => S1.apart iv1 il (by omega) (a := h.next) e rfl
  refine (deleteFunc71_ok (p := fun q => q.1 == sp) RV (S1.grow _ iv1) (S1.mine _ iv1) ltV (by omega) fun h1 q K f1 hK => ?_).mono ?_
  · rw [cv72]
    refine (clos72 (sp := sp) ((f1.eq _ (Nat.lt_succ_self _) neV).trans (get_alloc_eq _ _))).mono ?_
    rintro _ h2 ⟨rfl, f2⟩
    exact hK h2 f2
  rintro V' h3 ⟨R3, G3, M3, f3, o3⟩
  have S3 := S1.put (3 + hs.length + k) iv1 (Thing.vec keyE V' (x.ord.filter fun q => !(q.1 == sp))) f3 ⟨R3, G3, M3⟩ fun b hb => ⟨.inl (o3 b hb), Nat.lt_of_lt_of_le (ltV b (o3 b hb)) f3.le⟩
  rw [List.set_append_left _ _ ivl] at S3
  have i1 : ((TlTs t size HS begun om op no hs).set (3 + hs.length + k) (Thing.vec keyE V' (x.ord.filter fun q => !(q.1 == sp))) ++ [Thing.cells h.next [i sp]])[1]? = some (Thing.vec hdE HS (hs.map HX.hd)) := by
    rw [List.getElem?_append_left (by simp [TlTs]), List.getElem?_set_ne (by omega)]; rfl
  have c3 := R3.cell
  obtain ⟨a', off', h4, hat', est, S4, n4, f4⟩ := S3.stf 1 i1 (k := k) (j := 1) (x.m, V') (v := V') c3 hd (by decide) (by simp [hdE, c3, HX.hd])
  have hat2 : hdE.e = 2 := rfl
  rw [hat2, hat] at hat'
  cases hat'
  simp (disch := omega) only [i, sh, sh2, est]
  rw [List.set_append_left _ _ (by simp [TlTs]), tl_set_v hk] at S4
  have hk4 : (hs.set k { x with V := V', ord := x.ord.filter fun q => !(q.1 == sp) })[k]? = some { x with V := V', ord := x.ord.filter fun q => !(q.1 == sp) } := by rw [List.getElem?_set_self hkl]
  have hd4 : ((hs.set k { x with V := V', ord := x.ord.filter fun q => !(q.1 == sp) }).map HX.hd)[k]? = some (x.m, V') := by rw [List.getElem?_map, hk4]; rfl
  obtain ⟨_, a4, off4, hat4, l40, l41⟩ := hd_at S4 rfl hd4 c3
  rw [hat] at hat4
  cases hat4
  simp (disch := omega) only [i, sh, sh2, l40]
  have im4 := tl_m (t := t) (size := size) (HS := HS) (begun := begun) (om := om) (op := op) (no := no) hk4
  have iml4 := (List.getElem?_eq_some_iff.1 im4).1
  have im5 : (TlTs t size HS begun om op no (hs.set k { x with V := V', ord := x.ord.filter fun q => !(q.1 == sp) }) ++ [Thing.cells h.next [i sp]])[3 + k]? = some (Thing.map x.m keyK.k x.mp x.n) := by rw [List.getElem?_append_left iml4]; exact im4
  have il4 : (TlTs t size HS begun om op no (hs.set k { x with V := V', ord := x.ord.filter fun q => !(q.1 == sp) }) ++ [Thing.cells h.next [i sp]])[(TlTs t size HS begun om op no (hs.set k { x with V := V', ord := x.ord.filter fun q => !(q.1 == sp) })).length]? = some (Thing.cells h.next [i sp]) := by simp
  have xc := S4.cell _ il4
  have nem : h.next ≠ x.m := fun e => S4.apart im5 il4 (by omega) (a := h.next) e rfl
  have ltc : h.next < h4.next := S4.lt _ il4 rfl
  refine (mapsDelete73_ok (p := fun q => q.1 == sp) S4 (3 + k) im5 fun h1 q v K f1 hK => ?_).mono ?_
  · rw [cv74]
    refine (clos74 (sp := sp) ((f1.eq _ ltc nem).trans xc)).mono ?_
    rintro _ h2 ⟨rfl, f2⟩
    exact hK h2 f2
  rintro _ h6 ⟨rfl, n', S6, f6⟩
  rw [List.set_append_left _ _ iml4, tl_set_m hk4, List.set_set] at S6
  have hk6 : (hs.set k { x with V := V', ord := x.ord.filter fun q => !(q.1 == sp), mp := fun q => if (q.1 == sp) = true then none else x.mp q, n := n' })[k]? = some { x with V := V', ord := x.ord.filter fun q => !(q.1 == sp), mp := fun q => if (q.1 == sp) = true then none else x.mp q, n := n' } := by rw [List.getElem?_set_self hkl]
  have hd6 : ((hs.set k { x with V := V', ord := x.ord.filter fun q => !(q.1 == sp), mp := fun q => if (q.1 == sp) = true then none else x.mp q, n := n' }).map HX.hd)[k]? = some (x.m, V') := by rw [List.getElem?_map, hk6]; rfl
  obtain ⟨_, a6, off6, hat6, l60, l61⟩ := hd_at S6 rfl hd6 c3
  rw [hat] at hat6
  cases hat6
  have hl6 := R3.len (P := Try.prog) ty50T h6
  have hfl : (x.ord.filter fun q => !(q.1 == sp)).length ≤ x.ord.length := List.length_filter_le _ _
  simp (disch := omega) only [i, sh, sh2, shi, dec, l61, b_len, hl6]
  exact ⟨trivial, V', n', S6.init⟩
end
end Go.Proofs.Ytfbagndfifibiaa

namespace Go.Proofs.Ytfbagndfifibiaa
open Go.ChangeShapes Go.WideShapes Go.ChangeAt Go.RowKit Go.Lm
set_option linter.unusedSimpArgs false
abbrev KEnt := AKey × Int
def lkp : List KEnt → AKey → Option Int
  | [], _ => none
  | p :: l, q => if p.1 = q then some p.2 else lkp l q
theorem lkp_none : ∀ {l : List KEnt} {q : AKey}, q ∉ l.map (·.1) → lkp l q = none
  | [], _, _ => rfl
  | p :: l, q, h => by
    simp only [List.map_cons, List.mem_cons, not_or] at h
    simp only [lkp, if_neg (Ne.symm h.1)]
    exact lkp_none h.2
theorem lkp_iff : ∀ {l : List KEnt} {q : AKey}, (lkp l q).isSome = true ↔ q ∈ l.map (·.1)
  | [], _ => by simp [lkp]
  | p :: l, q => by
    simp only [lkp, List.map_cons, List.mem_cons]
    by_cases h : p.1 = q
    · simp [h]
    · rw [if_neg h, lkp_iff (l := l)]
      simp [Ne.symm h]
theorem lkp_app : ∀ (l : List KEnt) (q q' : AKey) (e : Int), lkp (l ++ [(q, e)]) q' = (lkp l q').or (if q = q' then some e else none)
  | [], q, q', e => by simp [lkp]
  | p :: l, q, q', e => by
    simp only [List.cons_append, lkp, lkp_app l]
    by_cases h : p.1 = q' <;> simp [h]
theorem lkp_filter (p : AKey → Bool) : ∀ (l : List KEnt) (q : AKey), lkp (l.filter fun x => p x.1) q = if p q = true then lkp l q else none
  | [], q => by simp [lkp]
  | x :: l, q => by
    simp only [List.filter_cons]
    have ih := lkp_filter p l q
    by_cases hx : p x.1 = true
    · rw [if_pos hx]
      simp only [lkp, ih]
      by_cases h : x.1 = q
      · simp [h, h ▸ hx]
      · simp [h]
    · rw [if_neg hx, ih]
      by_cases h : x.1 = q
      · simp [h ▸ hx]
      · simp [lkp, h]
theorem lkp_tail {x : KEnt} {l : List KEnt} (nd : ((x :: l).map (·.1)).Nodup) (q : AKey) : lkp l q = if q = x.1 then none else lkp (x :: l) q := by
  simp only [List.map_cons, List.nodup_cons] at nd
  by_cases h : q = x.1
  · subst h; rw [if_pos rfl]; exact lkp_none nd.1
  · rw [if_neg h]; simp [lkp, Ne.symm h]
def setK (l : List KEnt) (q : AKey) (e : Int) : List KEnt := l.map fun p => if p.1 = q then (q, e) else p
theorem setK_keys (l : List KEnt) (q : AKey) (e : Int) : (setK l q e).map (·.1) = l.map (·.1) := by
  simp only [setK, List.map_map]
  refine List.map_congr_left fun p _ => ?_
  by_cases h : p.1 = q <;> simp [h]
theorem lkp_setK : ∀ (l : List KEnt) (q : AKey) (e : Int) (q' : AKey), q ∈ l.map (·.1) → lkp (setK l q e) q' = if q' = q then some e else lkp l q'
  | [], q, e, q', h => by simp at h
  | p :: l, q, e, q', h => by
    have key : ∀ (l : List KEnt), q ∉ l.map (·.1) → setK l q e = l := fun l hl => by
      rw [setK]
      conv => rhs; rw [← List.map_id l]
      refine List.map_congr_left fun x hx => ?_
      rw [if_neg fun hh => hl (List.mem_map.2 ⟨x, hx, hh⟩)]; rfl
    simp only [setK, List.map_cons] at *
    by_cases hp : p.1 = q
    · simp only [if_pos hp, lkp]
      by_cases hq : q = q'
      · simp [hq]
      · rw [if_neg hq, if_neg (Ne.symm hq), if_neg (by rw [hp]; exact hq)]
        by_cases hm : q ∈ l.map (·.1)
        · have := lkp_setK l q e q' hm
          rw [if_neg (Ne.symm hq)] at this
          exact this
        · exact congrArg (lkp · q') (key l hm)
    · rw [if_neg hp]
      have hm : q ∈ l.map (·.1) := by
        rcases List.mem_cons.1 h with h | h
        · exact absurd h.symm hp
        · exact h
      have ih := lkp_setK l q e q' hm
      simp only [lkp]
      by_cases hpq : p.1 = q'
      · rw [if_pos hpq, if_neg (by rw [← hpq]; exact hp), if_pos hpq]
      · rw [if_neg hpq, if_neg hpq]; exact ih
def fillK (size : Int) (l : List KEnt) (q : AKey) (e : Int) : List KEnt :=
  if q ∈ l.map (·.1) then setK l q e else (if size ≤ l.length then l.drop 1 else l) ++ [(q, e)]
def goneK (l : List KEnt) (sp : Int) : List KEnt := l.filter fun p => !(p.1.1 == sp)
structure TSt where
  size : Int
  harts : List (List KEnt)
  begun : Int
  opn : Int → Option (Int × List Bool)
  nopn : Nat
def shV (s : Int × List Bool) : LV := .agg (i s.1 :: s.2.map .bool)
def u32V (e : Int) : LV := .int .u32 e
def HXok (x : HX) (kept : List KEnt) : Prop := x.ord = kept.map (·.1) ∧ x.mp = fun q => (lkp kept q).map u32V
structure TWf (st : TSt) : Prop where
  s1 : 1 ≤ st.size
  s2 : st.size ≤ 64
  h8 : st.harts.length ≤ 8
  nd : ∀ l ∈ st.harts, (l.map (·.1)).Nodup ∧ l.length ≤ st.size
  b0 : 0 ≤ st.begun
  b1 : st.begun < 2147483648
  no : (st.nopn : Int) ≤ st.begun
  op : ∀ id s, st.opn id = some s → 1 ≤ id ∧ id ≤ st.begun ∧ s.2.length = 8 ∧ (∀ j : Nat, s.2[j]? = some true → j < st.harts.length) ∧ ∃ j : Nat, s.2[j]? = some true
def TD (t : Nat) (st : TSt) (Ts : List Thing) : Prop :=
  ∃ HS om hs, Ts = TlTs t st.size HS st.begun om (fun id => (st.opn id).map shV) st.nopn hs ∧ All2 HXok hs st.harts ∧ TWf st
abbrev TBox (t : Nat) (S : Nat → Prop) (st : TSt) : Thing := Thing.box (TD t) S st
section
variable {F : Nat → Prop} {g h h' : LHeap} {t om no k : Nat} {size begun : Int} {HS : LV} {op : Int → Option LV} {hs : List HX} {x : HX} {Zs : List Thing} {st : TSt} {S : Nat → Prop}
theorem tz_m (hk : hs[k]? = some x) : (TlTs t size HS begun om op no hs ++ Zs)[3 + k]? = some x.mT := by
  have h := tl_m (t := t) (size := size) (HS := HS) (begun := begun) (om := om) (op := op) (no := no) hk
  rw [List.getElem?_append_left (List.getElem?_eq_some_iff.1 h).1]; exact h
theorem tz_v (hk : hs[k]? = some x) : (TlTs t size HS begun om op no hs ++ Zs)[3 + hs.length + k]? = some x.vT := by
  have h := tl_v (t := t) (size := size) (HS := HS) (begun := begun) (om := om) (op := op) (no := no) hk
  rw [List.getElem?_append_left (List.getElem?_eq_some_iff.1 h).1]; exact h
theorem tl_len : (TlTs t size HS begun om op no hs).length = 3 + 2 * hs.length := by simp [TlTs]; omega
theorem tz_set_m (hk : hs[k]? = some x) (mp : AKey → Option LV) (n : Nat) : (TlTs t size HS begun om op no hs ++ Zs).set (3 + k) (Thing.map x.m keyK.k mp n) = TlTs t size HS begun om op no (hs.set k { x with mp := mp, n := n }) ++ Zs := by
  have hl := (List.getElem?_eq_some_iff.1 hk).1
  rw [List.set_append_left _ _ (by rw [tl_len]; omega), tl_set_m hk]
theorem tz_set_v (hk : hs[k]? = some x) (V : LV) (ord : List AKey) : ((TlTs t size HS begun om op no hs ++ Zs).set (3 + hs.length + k) (Thing.vec keyE V ord)).set 1 (Thing.vec hdE HS ((hs.map HX.hd).set k (x.m, V))) = TlTs t size HS begun om op no (hs.set k { x with V := V, ord := ord }) ++ Zs := by
  have hl := (List.getElem?_eq_some_iff.1 hk).1
  rw [List.set_append_left _ _ (by rw [tl_len]; omega), List.set_append_left _ _ (by rw [List.length_set, tl_len]; omega), tl_set_v hk]
theorem Sep.left (Sp : Sep F g h (TlTs t size HS begun om op no hs ++ Zs)) : Sep F g h (TlTs t size HS begun om op no hs) := Sp.sub (List.sublist_append_left _ _)
theorem hs_get (ok : All2 HXok hs st.harts) {l : List KEnt} (hk : st.harts[k]? = some l) : ∃ x, hs[k]? = some x ∧ HXok x l := ok.get hk
theorem kept_of (hk : k < st.harts.length) : ∃ l, st.harts[k]? = some l := ⟨_, List.getElem?_eq_getElem hk⟩
theorem Flush_ok (B : (TBox t S st).ok g) (lt : ∀ a, S a → a < g.next) (a sp : Int) : Ok Try.prog 54 [.ptr t 0, i a, i sp] g fun v h =>
    (¬ (0 ≤ a ∧ a < st.harts.length) ∧ v = i 0 ∧ After (TD t) S g h st) ∨
    (∃ (k : Nat) (l : List KEnt), a = k ∧ st.harts[k]? = some l ∧ v = i ((l.length : Int) - (goneK l sp).length) ∧ After (TD t) S g h { st with harts := st.harts.set k (goneK l sp) }) := by
  refine ok54 fun wf _ => ?_
  obtain ⟨Ts, ⟨HS, om, hs, rfl, ok, tw⟩, Sp⟩ := box_open B lt
  simp (disch := omega) only [F54, i]
  refine (is_ok Sp a).mono ?_
  rintro _ _ ⟨rfl, rfl⟩
  have hln : hs.length = st.harts.length := ok.len
  by_cases hr : 0 ≤ a ∧ a < st.harts.length
  · obtain ⟨k, rfl⟩ := Int.eq_ofNat_of_zero_le hr.1
    obtain ⟨l, hl⟩ := kept_of (st := st) (k := k) (by omega)
    obtain ⟨x, hx, ho, hm⟩ := hs_get ok hl
    have x0 := Sp.cell 0 rfl
    have ix := (Sp.row (V := HS) 1 rfl).ix (k := .i64) (i := k) (by rw [List.length_map]; omega)
    have e2 : hdE.e = 2 := rfl
    rw [e2] at ix
    have hd : decide (0 ≤ (k : Int) ∧ (k : Int) < hs.length) = true := by simp; omega
    have tl := tw.nd l (List.mem_of_getElem? hl)
    have ts := tw.s2
    have hol : x.ord.length = l.length := by rw [ho, List.length_map]
    have hgl : (x.ord.filter fun q => !(q.1 == sp)) = (goneK l sp).map (·.1) := by
      rw [ho, goneK, List.filter_map]; rfl
    rw [hd]
    simp (disch := omega) only [sh, sh2, x0, i, ix]
    refine (forget_ok Sp hx (by omega) sp).mono ?_
    rintro _ h2 ⟨rfl, V', n', S2⟩
    refine .inr ⟨k, l, rfl, hl, by rw [hgl, hol, List.length_map], S2.after ⟨HS, om, _, rfl, ok.set k ⟨hgl, ?_⟩, ?_⟩⟩
    · funext q
      rw [hm]
      have := lkp_filter (fun q => !(q.1 == sp)) l q
      unfold goneK
      rw [this]
      by_cases hq : (q.1 == sp) = true <;> simp [hq]
    · refine ⟨tw.s1, tw.s2, by simpa using tw.h8, fun l' hl' => ?_, tw.b0, tw.b1, tw.no, fun id s hs' => by simpa using tw.op id s hs'⟩
      rcases List.mem_or_eq_of_mem_set hl' with h1 | rfl
      · exact tw.nd l' h1
      · refine ⟨tl.1.sublist (List.filter_sublist.map _), ?_⟩
        have : (goneK l sp).length ≤ l.length := List.length_filter_le _ _
        show ((goneK l sp).length : Int) ≤ st.size
        omega
  · have hd : decide (0 ≤ a ∧ a < hs.length) = false := by simp; omega
    rw [hd]
    simp (disch := omega) only [sh, sh2]
    exact .inl ⟨hr, trivial, Sp.after ⟨HS, om, hs, rfl, ok, tw⟩⟩
end
end Go.Proofs.Ytfbagndfifibiaa

namespace Go.Proofs.Ytfbagndfifibiaa
open Go.ChangeShapes Go.WideShapes Go.ChangeAt Go.RowKit Go.Lm
set_option linter.unusedSimpArgs false
section
variable {F : Nat → Prop} {g h h' : LHeap} {t om no k : Nat} {size begun : Int} {HS : LV} {op : Int → Option LV} {hs : List HX} {x : HX} {Zs : List Thing} {st : TSt} {S : Nat → Prop}
set_option maxRecDepth 10000 in
theorem bs50_1T (h : LHeap) (q : AKey) : buildSliceL Try.prog 78 1 [(0, .agg (keyE.f q))] h = some (.slice h.next 0 1 (.ex 1), h.alloc (.cells (keyE.f q) .ex)) := by
  obtain ⟨a, b⟩ := q
  show buildSliceL Try.prog 78 1 [(0, .agg [i a, i b])] h = some (.slice h.next 0 1 (.ex 1), h.alloc (.cells [i a, i b] .ex))
  kernel_rfl
theorem TWf.setH (tw : TWf st) {k : Nat} {l : List KEnt} (h1 : (l.map (·.1)).Nodup) (h2 : l.length ≤ st.size) : TWf { st with harts := st.harts.set k l } := by
  refine ⟨tw.s1, tw.s2, by simpa using tw.h8, fun l' hl' => ?_, tw.b0, tw.b1, tw.no, fun id s hs' => by simpa using tw.op id s hs'⟩
  rcases List.mem_or_eq_of_mem_set hl' with h | rfl
  · exact tw.nd l' h
  · exact ⟨h1, h2⟩
theorem fillK_wf {l : List KEnt} {size : Int} (h1 : (l.map (·.1)).Nodup) (h2 : l.length ≤ size) (hs : 1 ≤ size) (q : AKey) (e : Int) : ((fillK size l q e).map (·.1)).Nodup ∧ (fillK size l q e).length ≤ size := by
  unfold fillK
  by_cases hq : q ∈ l.map (·.1)
  · rw [if_pos hq, setK_keys]
    exact ⟨h1, by simpa [setK] using h2⟩
  · rw [if_neg hq]
    by_cases hf : size ≤ l.length
    · rw [if_pos hf, List.map_append, List.nodup_append]
      refine ⟨⟨h1.sublist ((List.drop_sublist 1 l).map _), by simp, fun a ha b hb => ?_⟩, by simp; omega⟩
      simp only [List.map_cons, List.map_nil, List.mem_singleton] at hb
      subst hb
      intro e
      subst e
      obtain ⟨y, hy, rfl⟩ := List.mem_map.1 ha
      exact hq (List.mem_map.2 ⟨y, List.mem_of_mem_drop hy, rfl⟩)
    · rw [if_neg hf, List.map_append, List.nodup_append]
      refine ⟨⟨h1, by simp, fun a ha b hb => ?_⟩, by simp; omega⟩
      simp only [List.map_cons, List.map_nil, List.mem_singleton] at hb
      subst hb
      intro e
      exact hq (e ▸ ha)
set_option maxRecDepth 4000 in
/-- The end of Fill: the entry is laid under its key. -/
theorem fill_end {c a off : Nat} {q : AKey} {e : Int} (Sp : Sep F g h (TlTs t size HS begun om op no hs ++ [Thing.cells c (keyE.f q)])) (hk : hs[k]? = some x) (hat : HS.at 2 k = .ptr a off) (cV : x.V.cell = true) {K : LV → LHeap → Prop}
    (hK : ∀ h' n', Sep F g h' (TlTs t size HS begun om op no (hs.set k { x with mp := upd x.mp q (some (u32V e)), n := n' })) → K (i 0) h') : J29_4 (u32V e) (.ptr c 0) (.ptr a off) h K := by
  have hd : (hs.map HX.hd)[k]? = some (x.m, x.V) := by rw [List.getElem?_map, hk]; rfl
  obtain ⟨_, a', off', hat', l0, l1⟩ := hd_at Sp rfl hd cV
  rw [hat] at hat'
  cases hat'
  have xc := Sp.cell (TlTs t size HS begun om op no hs).length (a := c) (vs := keyE.f q) (by simp)
  obtain ⟨H, es, S1, f1⟩ := Sp.mset keyK (3 + k) (tz_m hk) ty94 q (u32V e)
  rw [tz_set_m hk] at S1
  rw [keyK_f] at es
  simp (disch := omega) only [J29_4, sh, sh2, l0, xc, key_o, es, shc]
  exact hK _ _ S1.init
set_option maxRecDepth 4000 in
theorem Fill_ok (B : (TBox t S st).ok g) (lt : ∀ a, S a → a < g.next) (a : Int) (q : AKey) (e : Int) : Ok Try.prog 29 [.ptr t 0, i a, .agg (keyE.f q), u32V e] g fun v h =>
    (¬ (0 ≤ a ∧ a < st.harts.length) ∧ v = i 1 ∧ After (TD t) S g h st) ∨
    (∃ (k : Nat) (l : List KEnt), a = k ∧ st.harts[k]? = some l ∧ v = i 0 ∧ After (TD t) S g h { st with harts := st.harts.set k (fillK st.size l q e) }) := by
  refine ok29 fun wf _ => ?_
  obtain ⟨Ts, ⟨HS, om, hs, rfl, ok, tw⟩, Sp⟩ := box_open B lt
  have S1 := Sp.new (keyE.f q)
  simp (disch := omega) only [F29, J29_0, J29_1, i, sh, new_key, nil_p ty36 true]
  refine (is_ok S1.init a).mono ?_
  rintro _ _ ⟨rfl, rfl⟩
  have hln : hs.length = st.harts.length := ok.len
  by_cases hr : 0 ≤ a ∧ a < st.harts.length
  rotate_left
  · have hd : decide (0 ≤ a ∧ a < hs.length) = false := by simp; omega
    rw [hd]
    simp (disch := omega) only [sh, sh2]
    exact .inl ⟨hr, trivial, S1.init.after ⟨HS, om, hs, rfl, ok, tw⟩⟩
  obtain ⟨k, rfl⟩ := Int.eq_ofNat_of_zero_le hr.1
  obtain ⟨l, hl⟩ := kept_of (st := st) (k := k) (by omega)
  obtain ⟨x, hx, ho, hm⟩ := hs_get ok hl
  have hkl := (List.getElem?_eq_some_iff.1 hx).1
  have x0 := S1.cell 0 rfl
  have xq := S1.cell (TlTs t st.size HS st.begun om (fun id => (st.opn id).map shV) st.nopn hs).length (a := g.next) (vs := keyE.f q) (by simp)
  have ix := (S1.row (V := HS) 1 rfl).ix (k := .i64) (i := k) (by rw [List.length_map]; omega)
  have e2 : hdE.e = 2 := rfl
  rw [e2] at ix
  have hd : decide (0 ≤ (k : Int) ∧ (k : Int) < hs.length) = true := by simp; omega
  have tl := tw.nd l (List.mem_of_getElem? hl)
  have ts := tw.s2
  have ts1 := tw.s1
  have hol : x.ord.length = l.length := by rw [ho, List.length_map]
  have RV := S1.row (3 + hs.length + k) (V := x.V) (E := keyE) (l := x.ord) (tz_v hx)
  have cV := RV.cell
  have hdd : (hs.map HX.hd)[k]? = some (x.m, x.V) := by rw [List.getElem?_map, hx]; rfl
  obtain ⟨_, pa, po, hat, l0, l1⟩ := hd_at S1 rfl hdd cV
  have hlk := (S1.at (3 + k) (tz_m hx)).lookup (P := Try.prog) keyK ty94 zr42 q true
  rw [keyK_f] at hlk
  have hlm : x.mp q = (lkp l q).map u32V := by rw [hm]
  rw [hd]
  have fin : ∀ {x' : HX} {h2 : LHeap} {v : LV}, x'.ord = (fillK st.size l q e).map (·.1) → x'.mp = (fun q' => (lkp (fillK st.size l q e) q').map u32V) → Sep S g h2 (TlTs t st.size HS st.begun om (fun id => (st.opn id).map shV) st.nopn (hs.set k x')) → v = i 0 →
      (¬ (0 ≤ (k : Int) ∧ (k : Int) < st.harts.length) ∧ v = i 1 ∧ After (TD t) S g h2 st) ∨ (∃ (k' : Nat) (l' : List KEnt), (k : Int) = k' ∧ st.harts[k']? = some l' ∧ v = i 0 ∧ After (TD t) S g h2 { st with harts := st.harts.set k' (fillK st.size l' q e) }) := by
    intro x' h2 v h3 h4 S2 hv
    have hw := fillK_wf (size := st.size) tl.1 tl.2 ts1 q e
    exact .inr ⟨k, l, rfl, hl, hv, S2.after ⟨HS, om, _, rfl, ok.set k ⟨h3, h4⟩, tw.setH hw.1 hw.2⟩⟩
  by_cases hq : q ∈ l.map (·.1)
  · obtain ⟨ev, hev⟩ := Option.isSome_iff_exists.1 (lkp_iff.2 hq)
    rw [hlm, hev] at hlk
    have hlk : lookupL Try.prog 77 (.map x.m) (.agg (keyE.f q)) true (g.alloc (.cells (keyE.f q) .ex)) = some (.tuple [u32V ev, .bool true]) := hlk
    simp (disch := omega) only [J29_2, J29_3, J29_5, J29_6, sh, sh2, x0, i, ix, hat, l0, xq, key_o, hlk]
    refine fill_end S1 hx hat cV fun h2 n' S2 => ?_
    refine fin ?_ ?_ S2 rfl
    · simp only [fillK, if_pos hq, setK_keys]; exact ho
    · funext q'
      simp only [fillK, if_pos hq, lkp_setK l q e q' hq]
      by_cases hqq : q' = q
      · subst hqq; rw [upd_at]; simp
      · rw [upd_ne _ _ hqq, hm, if_neg hqq]
  have hev := lkp_none hq
  rw [hlm, hev] at hlk
  have hlk : lookupL Try.prog 77 (.map x.m) (.agg (keyE.f q)) true (g.alloc (.cells (keyE.f q) .ex)) = some (.tuple [.int .u32 0, .bool false]) := hlk
  have hlo := RV.len (P := Try.prog) ty50T
  -- what is appended to, and laid
  have push : ∀ {x' : HX} {h2 : LHeap}, x'.ord.length ≤ 64 → x'.ord ++ [q] = (fillK st.size l q e).map (·.1) → (fun q' => upd x'.mp q (some (u32V e)) q') = (fun q' => (lkp (fillK st.size l q e) q').map u32V) →
      Sep S g h2 (TlTs t st.size HS st.begun om (fun id => (st.opn id).map shV) st.nopn (hs.set k x') ++ [Thing.cells g.next (keyE.f q)]) →
      J29_7 (u32V e) (.ptr g.next 0) (.ptr pa po) h2 fun v h => (¬ (0 ≤ (k : Int) ∧ (k : Int) < st.harts.length) ∧ v = i 1 ∧ After (TD t) S g h st) ∨ (∃ (k' : Nat) (l' : List KEnt), (k : Int) = k' ∧ st.harts[k']? = some l' ∧ v = i 0 ∧ After (TD t) S g h { st with harts := st.harts.set k' (fillK st.size l' q e) }) := by
    intro x' h2 hol' h3 h4 S2
    have hx' : (hs.set k x')[k]? = some x' := by rw [List.getElem?_set_self hkl]
    have hln' : (hs.set k x').length = hs.length := by simp
    have iv2 := tz_v (t := t) (size := st.size) (HS := HS) (begun := st.begun) (om := om) (op := fun id => (st.opn id).map shV) (no := st.nopn) (Zs := [Thing.cells g.next (keyE.f q)]) hx'
    have cV2 := (S2.row (V := x'.V) (E := keyE) (l := x'.ord) _ iv2).cell
    have hdd2 : ((hs.set k x').map HX.hd)[k]? = some (x'.m, x'.V) := by rw [List.getElem?_map, hx']; rfl
    obtain ⟨_, a2, o2, hat2, l20, l21⟩ := hd_at S2 rfl hdd2 cV2
    rw [hat] at hat2
    cases hat2
    have xq2 := S2.cell (TlTs t st.size HS st.begun om (fun id => (st.opn id).map shV) st.nopn (hs.set k x')).length (a := g.next) (vs := keyE.f q) (by simp)
    obtain ⟨_, a3, o3, hat3, l30, l31⟩ := hd_at (S2.temp (.cells (keyE.f q) .ex)) rfl hdd2 cV2
    rw [hat] at hat3
    cases hat3
    obtain ⟨V', h4', ea, S4, c4, _, _⟩ := S2.push (bytes := 16) (3 + (hs.set k x').length + k) iv2 q (cs := keyE.f q) rfl (by omega)
    have ea : appendL 2 16 x'.V (.slice h2.next 0 1 (.ex 1)) (h2.alloc (.cells (keyE.f q) .ex)) = some (V', h4') := ea
    have i1 : ((TlTs t st.size HS st.begun om (fun id => (st.opn id).map shV) st.nopn (hs.set k x') ++ [Thing.cells g.next (keyE.f q)]).set (3 + (hs.set k x').length + k) (Thing.vec keyE V' (x'.ord ++ [q])))[1]? = some (Thing.vec hdE HS ((hs.set k x').map HX.hd)) := by
      rw [List.getElem?_set_ne (by omega)]; rfl
    obtain ⟨a5, o5, h5, hat5, est, S5, _, _⟩ := S4.stf 1 i1 (k := k) (j := 1) (x'.m, V') (v := V') c4 hdd2 (by decide) (by simp [hdE, c4])
    rw [e2, hat] at hat5
    cases hat5
    rw [tz_set_v hx', List.set_set] at S5
    have eap := ap50T (V := x'.V) (U := .slice h2.next 0 1 (.ex 1)) rfl (h2.alloc (.cells (keyE.f q) .ex))
    simp (disch := omega) only [J29_7, i, sh, sh2, l21, xq2, key_o, bs50_1T, l31, eap, ea, est, shc]
    have hx5 : (hs.set k { x' with V := V', ord := x'.ord ++ [q] })[k]? = some { x' with V := V', ord := x'.ord ++ [q] } := by rw [List.getElem?_set_self hkl]
    refine fill_end S5 hx5 hat c4 fun h6 n' S6 => ?_
    rw [List.set_set] at S6
    exact fin h3 h4 S6 rfl
  by_cases hf : st.size ≤ l.length
  · have hl1 : 1 ≤ l.length := by omega
    obtain ⟨p0, l', rfl⟩ : ∃ p0 l', l = p0 :: l' := by cases l with | nil => simp at hl1 | cons a b => exact ⟨a, b, rfl⟩
    have hord0 : x.ord[0]? = some p0.1 := by rw [ho]; rfl
    have ix0 := RV.ix (k := .i64) (i := 0) (by omega)
    have ld0 := RV.ld hord0
    have ek : keyE.e = 2 := rfl
    rw [ek] at ix0 ld0
    have ix0 : ixAddrL none 2 x.V (.int .i64 0) = some (x.V.at 2 0) := ix0
    obtain ⟨H, ed, S2, f2⟩ := S1.mdel keyK (3 + k) (tz_m hx) ty94 p0.1 [86]
    rw [tz_set_m hx] at S2
    rw [keyK_f] at ed
    obtain ⟨x2, e2m, e2V, e2o, e2p, S2⟩ : ∃ x2 : HX, x2.m = x.m ∧ x2.V = x.V ∧ x2.ord = x.ord ∧ x2.mp = upd x.mp p0.1 none ∧ Sep S g H (TlTs t st.size HS st.begun om (fun id => (st.opn id).map shV) st.nopn (hs.set k x2) ++ [Thing.cells g.next (keyE.f q)]) := ⟨{ x with mp := upd x.mp p0.1 none, n := _ }, rfl, rfl, rfl, rfl, S2⟩
    have hx2 : (hs.set k x2)[k]? = some x2 := by rw [List.getElem?_set_self hkl]
    have iv2 := tz_v (t := t) (size := st.size) (HS := HS) (begun := st.begun) (om := om) (op := fun id => (st.opn id).map shV) (no := st.nopn) (Zs := [Thing.cells g.next (keyE.f q)]) hx2
    have hdd2 : ((hs.set k x2).map HX.hd)[k]? = some (x2.m, x2.V) := by rw [List.getElem?_map, hx2]; rfl
    obtain ⟨_, a2, o2, hat2, l20, l21⟩ := hd_at S2 rfl hdd2 (by rw [e2V]; exact cV)
    rw [hat] at hat2
    cases hat2
    simp (disch := omega) only [J29_2, J29_3, J29_5, J29_6, sh, sh2, shi, dec, x0, i, ix, hat, l0, l1, xq, key_o, hlk, hlo, ix0, ld0, ed, l21, shc]
    obtain ⟨R2, G2, M2⟩ := S2.at _ iv2
    refine (delete45_ok (a := 0) (b := 1) R2 G2 M2 (by decide) (by rw [e2o]; omega) (by rw [e2o]; omega) (by rw [e2o]; omega)).mono ?_
    rintro V' h4 ⟨R4, G4, M4, f4, o4⟩
    have S4 := S2.put _ iv2 (Thing.vec keyE V' (x2.ord.take 0 ++ x2.ord.drop 1)) f4 ⟨R4, G4, M4⟩ fun b hb => ⟨.inl (o4 b hb), Nat.lt_of_lt_of_le (S2.lt _ iv2 (a := b) (o4 b hb)) f4.le⟩
    have c4 := R4.cell
    have i1 := (List.getElem?_set_ne (l := TlTs t st.size HS st.begun om (fun id => (st.opn id).map shV) st.nopn (hs.set k x2) ++ [Thing.cells g.next (keyE.f q)]) (a := Thing.vec keyE V' (x2.ord.take 0 ++ x2.ord.drop 1)) (i := 3 + (hs.set k x2).length + k) (j := 1) (by omega)).trans (rfl : _ = some (Thing.vec hdE HS ((hs.set k x2).map HX.hd)))
    obtain ⟨a5, o5, h5, hat5, est, S5, _, _⟩ := S4.stf 1 i1 (k := k) (j := 1) (x2.m, V') (v := V') c4 hdd2 (by decide) (by simp [hdE, c4])
    rw [e2, hat] at hat5
    cases hat5
    rw [tz_set_v hx2, List.set_set] at S5
    simp (disch := omega) only [i, sh, sh2, est]
    have hfe : fillK st.size (p0 :: l') q e = l' ++ [(q, e)] := by unfold fillK; rw [if_neg hq, if_pos hf]; rfl
    refine push ?_ ?_ ?_ S5
    · simp only [List.take_zero, List.nil_append, List.length_drop, e2o]; omega
    · rw [hfe]; simp only [List.take_zero, List.nil_append, e2o, ho, List.map_append, List.map_cons, List.map_nil, List.drop_succ_cons, List.drop_zero]
    · funext q'
      rw [hfe]
      simp only [e2p, lkp_app, lkp_tail tl.1]
      by_cases hqq : q' = q
      · subst hqq
        rw [upd_at, hev]
        by_cases h0 : q' = p0.1 <;> simp [h0]
      · rw [upd_ne _ _ hqq]
        by_cases h0 : q' = p0.1
        · subst h0; rw [upd_at]; simp [Ne.symm hqq]
        · rw [upd_ne _ _ h0, hm]; simp [h0, Ne.symm hqq]
  · simp (disch := omega) only [J29_2, J29_3, J29_5, J29_6, sh, sh2, shi, dec, x0, i, ix, hat, l0, l1, xq, key_o, hlk, hlo]
    have S1' : Sep S g (g.alloc (.cells (keyE.f q) .ex)) (TlTs t st.size HS st.begun om (fun id => (st.opn id).map shV) st.nopn (hs.set k x) ++ [Thing.cells g.next (keyE.f q)]) := by
      have e : hs.set k x = hs := by
        obtain ⟨hb, rfl⟩ := List.getElem?_eq_some_iff.1 hx
        exact List.set_getElem_self hb
      rw [e]; exact S1
    refine push ?_ ?_ ?_ S1'
    · omega
    · simp only [ho, fillK, if_neg hq, if_neg hf, List.map_append, List.map_cons, List.map_nil]
    · funext q'
      simp only [fillK, if_neg hq, if_neg hf, lkp_app]
      by_cases hqq : q' = q
      · subst hqq; rw [upd_at, hev]; simp
      · rw [upd_ne _ _ hqq, hm]; simp [Ne.symm hqq]
end
end Go.Proofs.Ytfbagndfifibiaa

namespace Go.Proofs.Ytfbagndfifibiaa
open Go.ChangeShapes Go.WideShapes Go.ChangeAt Go.RowKit Go.Lm
set_option linter.unusedSimpArgs false
def TSt.hart (st : TSt) (a : Int) : List KEnt := if 0 ≤ a then (st.harts[a.toNat]?).getD [] else []
theorem hart_in {st : TSt} {k : Nat} {l : List KEnt} (h : st.harts[k]? = some l) : st.hart k = l := by
  unfold TSt.hart
  rw [if_pos (by omega), Int.toNat_natCast, h]; rfl
theorem hart_out {st : TSt} {a : Int} (h : ¬ (0 ≤ a ∧ a < st.harts.length)) : st.hart a = [] := by
  unfold TSt.hart
  split
  · rw [List.getElem?_eq_none (by omega)]; rfl
  · rfl
def zero9 : List LV := [i 0, .bool false, .bool false, .bool false, .bool false, .bool false, .bool false, .bool false, .bool false]
theorem list8 {A : Type} {l : List A} (h : l.length = 8) : ∃ a b c d e f g k, l = [a, b, c, d, e, f, g, k] := by
  match l, h with
  | [a, b, c, d, e, f, g, k], _ => exact ⟨a, b, c, d, e, f, g, k, rfl⟩
theorem st9 (h : LHeap) {s : Int × List Bool} (hs : s.2.length = 8) : ∃ N, newL (.agg [.int .i64 0, .bool false, .bool false, .bool false, .bool false, .bool false, .bool false, .bool false, .bool false]) h = some (.ptr h.next 0, N) ∧ storeV 9 (.ptr h.next 0) (shV s) N = some (h.alloc (.cells (i s.1 :: s.2.map .bool) .ex)) := by
  obtain ⟨sp, l⟩ := s
  obtain ⟨a, b, c, d, e, f, g, k, rfl⟩ := list8 hs
  refine ⟨_, new_agg _ _ (by simp [LV.cell]), ?_⟩
  show storeV 9 _ (.agg [i sp, .bool a, .bool b, .bool c, .bool d, .bool e, .bool f, .bool g, .bool k]) _ = _
  simp only [sh2, shc, i]
  rfl
theorem cells9 {s : Int × List Bool} (hs : s.2.length = 8) : cellO (some 9) 0 (some (.cells (i s.1 :: s.2.map .bool) .ex)) = some (shV s) := by
  rw [cells_o _ _ _ _ (by simp [hs]), List.drop_zero, List.take_of_length_le (by simp [hs])]
  rfl
section
variable {F : Nat → Prop} {g h h' : LHeap} {t : Nat} {st : TSt} {S : Nat → Prop}
theorem Look_ok (B : (TBox t S st).ok g) (lt : ∀ a, S a → a < g.next) (a : Int) (q : AKey) : Ok Try.prog 26 [.ptr t 0, i a, .agg (keyE.f q)] g fun v h => v = .tuple [u32V ((lkp (st.hart a) q).getD 0), .bool (lkp (st.hart a) q).isSome] ∧ Fr noF g h := by
  refine ok26 fun wf _ => ?_
  obtain ⟨Ts, ⟨HS, om, hs, rfl, ok, tw⟩, Sp⟩ := box_open B lt
  have S1 := Sp.new (keyE.f q)
  simp (disch := omega) only [F26, i, sh, new_key]
  refine (is_ok S1.init a).mono ?_
  rintro _ _ ⟨rfl, rfl⟩
  have hln : hs.length = st.harts.length := ok.len
  by_cases hr : 0 ≤ a ∧ a < st.harts.length
  rotate_left
  · have hd : decide (0 ≤ a ∧ a < hs.length) = false := by simp; omega
    rw [hd, hart_out hr]
    simp (disch := omega) only [sh, sh2]
    exact ⟨rfl, Fr.alloc _ _⟩
  obtain ⟨k, rfl⟩ := Int.eq_ofNat_of_zero_le hr.1
  obtain ⟨l, hl⟩ := kept_of (st := st) (k := k) (by omega)
  obtain ⟨x, hx, ho, hm⟩ := hs_get ok hl
  rw [hart_in hl]
  have x0 := S1.cell 0 rfl
  have xq := S1.cell (TlTs t st.size HS st.begun om (fun id => (st.opn id).map shV) st.nopn hs).length (a := g.next) (vs := keyE.f q) (by simp)
  have ix := (S1.row (V := HS) 1 rfl).ix (k := .i64) (i := k) (by rw [List.length_map]; omega)
  have e2 : hdE.e = 2 := rfl
  rw [e2] at ix
  have hd : decide (0 ≤ (k : Int) ∧ (k : Int) < hs.length) = true := by simp; omega
  have cV := (S1.row (3 + hs.length + k) (V := x.V) (E := keyE) (l := x.ord) (tz_v hx)).cell
  have hdd : (hs.map HX.hd)[k]? = some (x.m, x.V) := by rw [List.getElem?_map, hx]; rfl
  obtain ⟨_, pa, po, hat, l0, l1⟩ := hd_at S1 rfl hdd cV
  have hlk := (S1.at (3 + k) (tz_m hx)).lookup (P := Try.prog) keyK ty94 zr42 q true
  rw [keyK_f, show x.mp q = (lkp l q).map u32V by rw [hm]] at hlk
  rw [hd]
  cases hev : lkp l q with
  | none =>
    rw [hev] at hlk
    have hlk : lookupL Try.prog 77 (.map x.m) (.agg (keyE.f q)) true (g.alloc (.cells (keyE.f q) .ex)) = some (.tuple [.int .u32 0, .bool false]) := hlk
    simp (disch := omega) only [sh, sh2, x0, i, ix, hat, l0, xq, key_o, hlk]
    exact ⟨rfl, Fr.alloc _ _⟩
  | some e =>
    rw [hev] at hlk
    have hlk : lookupL Try.prog 77 (.map x.m) (.agg (keyE.f q)) true (g.alloc (.cells (keyE.f q) .ex)) = some (.tuple [u32V e, .bool true]) := hlk
    simp (disch := omega) only [sh, sh2, x0, i, ix, hat, l0, xq, key_o, hlk]
    exact ⟨rfl, Fr.alloc _ _⟩
set_option maxRecDepth 10000 in
theorem Harts_ok (B : (TBox t S st).ok g) (lt : ∀ a, S a → a < g.next) : Ok Try.prog 25 [.ptr t 0] g fun v h => v = i st.harts.length ∧ h = g := by
  refine ok25 fun wf _ => ?_
  obtain ⟨Ts, ⟨HS, om, hs, rfl, ok, tw⟩, Sp⟩ := box_open B lt
  have x0 := Sp.cell 0 rfl
  have hl := (Sp.row (V := HS) 1 rfl).len (P := Try.prog) ty90
  have hln : hs.length = st.harts.length := ok.len
  rw [List.length_map, hln] at hl
  simp (disch := omega) only [F25, i, sh, sh2, nil_p ty36 true, x0, b_len, hl]
  exact ⟨trivial, trivial⟩
def overB (st : TSt) (id : Int) : Bool := decide (1 ≤ id ∧ id ≤ st.begun) && (st.opn id).isNone
end
end Go.Proofs.Ytfbagndfifibiaa

namespace Go.Proofs.Ytfbagndfifibiaa
open Go.ChangeShapes Go.WideShapes Go.ChangeAt Go.RowKit Go.Lm
set_option linter.unusedSimpArgs false
def leftB (l : List Int) : List Bool := (List.range 8).map fun (j : Nat) => decide ((j : Int) ∈ l)
theorem leftB_len (l : List Int) : (leftB l).length = 8 := by simp [leftB]
theorem leftB_at (l : List Int) {j : Nat} (hj : j < 8) : (leftB l)[j]? = some (decide ((j : Int) ∈ l)) := by simp [leftB, hj]
theorem leftB_snoc (l : List Int) {j : Nat} (hj : j < 8) : leftB (l ++ [(j : Int)]) = (leftB l).set j true := by
  apply List.ext_getElem?
  intro k
  by_cases hk : k < 8
  · rw [leftB_at _ hk, List.getElem?_set]
    by_cases e : j = k
    · subst e; simp [leftB_len, hj]
    · rw [if_neg e, leftB_at _ hk]
      have : (k : Int) ≠ j := by omega
      simp [this]
  · rw [List.getElem?_eq_none (by rw [leftB_len]; omega), List.getElem?_eq_none (by rw [List.length_set, leftB_len]; omega)]
def okTs (n : Nat) (ts : List Int) : Prop := ts.Nodup ∧ ∀ a ∈ ts, 0 ≤ a ∧ a < n
def startT (st : TSt) (sp : Int) (ts : List Int) : TSt :=
  { st with begun := st.begun + 1, opn := fun id => if ts ≠ [] ∧ id = st.begun + 1 then some (sp, leftB ts) else st.opn id, nopn := if ts = [] then st.nopn else st.nopn + 1 }
theorem bl101 (sp : Int) : buildL Try.prog 133 [(0, i sp)] = some (shV (sp, List.replicate 8 false)) := nr (by kernel_rfl)
theorem cell9 (c : Nat) (s : Int) (bs : List Bool) (h : LHeap) {j : Nat} {b : Bool} (hg : h.get c = some (.cells (i s :: bs.map .bool) .ex)) (hj : bs[j]? = some b) (v : Bool) :
    loadV none (.ptr c (1 + j * 1)) h = some (.bool b) ∧ storeV 1 (.ptr c (1 + j * 1)) (.bool v) h = some (h.set c (.cells (i s :: (bs.set j v).map .bool) .ex)) := by
  rw [load_o, store_o _ _ _ rfl, hg, Nat.mul_one, Nat.add_comm 1 j]
  simp only [cellO, setO, List.getElem?_cons_succ, List.getElem?_map, hj, Option.map_some, List.set_cons_succ, st_ex]
  exact ⟨trivial, by rw [List.map_set]⟩
section
variable {F : Nat → Prop} {g h h' : LHeap} {t : Nat} {st : TSt} {S : Nat → Prop}
set_option maxRecDepth 10000 in
theorem Start_ok (B : (TBox t S st).ok g) (lt : ∀ a, S a → a < g.next) (sp : Int) {V : LV} {ts : List Int} (R : Row g V intE ts) (ltV : ∀ a, V.obj = some a → a < g.next) (hl : ts.length < 9223372036854775808) : Ok Try.prog 70 [.ptr t 0, i sp, V] g fun v h =>
    (¬ okTs st.harts.length ts ∧ v = .tuple [i 0, i 1] ∧ After (TD t) S g h st) ∨ (okTs st.harts.length ts ∧ 2147483647 ≤ st.begun ∧ v = .tuple [i 0, i 2] ∧ After (TD t) S g h st) ∨
    (okTs st.harts.length ts ∧ st.begun < 2147483647 ∧ v = .tuple [i (st.begun + 1), i 0] ∧ After (TD t) S g h (startT st sp ts)) := by
  refine ok70 fun wf _ => ?_
  obtain ⟨Ts, ⟨HS, om, hs, rfl, ok, tw⟩, Sp⟩ := box_open B lt
  have hln : hs.length = st.harts.length := ok.len
  have hlen := R.len (P := Try.prog) ty24
  have h8 := tw.h8
  have hb0 := tw.b0
  have hb1 := tw.b1
  obtain ⟨N, n1, n2⟩ := st9 g (s := (sp, List.replicate 8 false)) rfl
  have S1 := Sp.new (i sp :: (leftB []).map .bool)
  have e8 : (i sp :: (List.replicate 8 false).map LV.bool) = i sp :: (leftB []).map .bool := rfl
  rw [e8] at n2
  simp (disch := omega) only [F70, J70_0, J70_1, J70_2, J70_7, i, sh, sh2, nil_p ty36 true, bl101, n1, n2, b_len, hlen]
  refine loop_n (fun n s h => ∃ k : Nat, s = i (k : Int) ∧ k + n = ts.length ∧ okTs st.harts.length (ts.take k) ∧ Fr noF g h ∧ Sep S g h (TlTs t st.size HS st.begun om (fun id => (st.opn id).map shV) st.nopn hs ++ [Thing.cells g.next (i sp :: (leftB (ts.take k)).map .bool)])) (n := ts.length)
    ⟨0, rfl, by omega, ⟨by simp, fun a ha => by simp at ha⟩, Fr.alloc _ _, S1⟩ ?_
  rintro n s h ⟨k, rfl, hk, okk, fr, Sk⟩
  have fin : ∀ {h2}, Sep S g h2 (TlTs t st.size HS st.begun om (fun id => (st.opn id).map shV) st.nopn hs) → After (TD t) S g h2 st := fun S2 => S2.after ⟨HS, om, hs, rfl, ok, tw⟩
  have xc := Sk.cell (TlTs t st.size HS st.begun om (fun id => (st.opn id).map shV) st.nopn hs).length (a := g.next) (vs := i sp :: (leftB (ts.take k)).map .bool) (by simp)
  cases n with
  | succ n =>
    obtain ⟨a, ha, hd⟩ := drop_at (l := ts) (k := k) (by omega)
    have Rh : Row h V intE ts := R.fr fun b hb => fr.eq b (ltV b hb) id
    have hix := Rh.ix (k := .i64) (i := k) (by omega)
    have hld := Rh.ld1 ha rfl rfl
    have e1 : intE.e = 1 := rfl
    rw [e1] at hix
    have htk := take_snoc ha
    simp (disch := omega) only [L70_8, i, sh, sh2, shi, dec, hix, hld]
    refine (is_ok Sk.init a).mono ?_
    rintro _ h ⟨rfl, rfl⟩
    by_cases hr : 0 ≤ a ∧ a < st.harts.length
    rotate_left
    · have hdd : decide (0 ≤ a ∧ a < hs.length) = false := by simp; omega
      rw [hdd]
      simp (disch := omega) only [sh, sh2]
      exact .inl ⟨fun hh => hr (hh.2 a (List.mem_of_getElem? ha)), trivial, fin Sk.init⟩
    have hdd : decide (0 ≤ a ∧ a < hs.length) = true := by simp; omega
    obtain ⟨j, rfl⟩ := Int.eq_ofNat_of_zero_le hr.1
    have hj : j < 8 := by omega
    have c9 := cell9 g.next sp (leftB (ts.take k)) h xc (leftB_at _ hj) true
    have hixa : ixAddrL (some 8) 1 (.ptr g.next 1) (.int .i64 (j : Int)) = some (.ptr g.next (1 + j * 1)) := ix_arr' 1 j hj
    rw [hdd]
    by_cases hm : (j : Int) ∈ ts.take k
    · have c91 := c9.1
      rw [decide_eq_true hm] at c91
      rw [load_o] at c91
      simp (disch := omega) only [sh, sh2, hixa, c91]
      refine .inl ⟨fun hh => ?_, trivial, fin Sk.init⟩
      have hnd : (ts.take (k + 1)).Nodup := hh.1.sublist (List.take_sublist _ _)
      rw [htk, List.nodup_append] at hnd
      exact hnd.2.2 _ hm _ (by simp) rfl
    · obtain ⟨c91, c92⟩ := c9
      rw [decide_eq_false hm] at c91
      rw [load_o] at c91
      rw [store_o _ _ _ rfl] at c92
      simp (disch := omega) only [sh, sh2, shs, shi, dec, hixa, c91, c92]
      refine ⟨n, by omega, k + 1, by simp, by omega, ?_, fr.set' _ (.inl (by omega)), ?_⟩
      · rw [htk]
        refine ⟨?_, fun b hb => ?_⟩
        · rw [List.nodup_append]
          exact ⟨okk.1, by simp, fun x hx y hy => by simp at hy; subst hy; intro e; exact hm (e ▸ hx)⟩
        · rcases List.mem_append.1 hb with hb | hb
          · exact okk.2 b hb
          · simp at hb; subst hb; exact hr
      · rw [htk, leftB_snoc _ hj]
        have S2 := Sk.store (TlTs t st.size HS st.begun om (fun id => (st.opn id).map shV) st.nopn hs).length (a := g.next) (vs := i sp :: (leftB (ts.take k)).map .bool) (by simp) (i sp :: ((leftB (ts.take k)).set j true).map .bool)
        rw [List.set_append_right _ _ (Nat.le_refl _), Nat.sub_self] at S2
        exact S2
  | zero =>
    have hall : ts.take k = ts := List.take_of_length_le (by omega)
    rw [hall] at okk Sk xc
    have x0 := Sk.cell 0 rfl
    by_cases hb : 2147483647 ≤ st.begun
    · simp (disch := omega) only [L70_8, J70_3, i, sh, sh2, shi, dec, x0]
      exact .inr (.inl ⟨okk, hb, trivial, fin Sk.init⟩)
    have S2 : Sep S g (h.set t (.cells [i st.size, HS, i (st.begun + 1), .map om] .ex)) (TlTs t st.size HS (st.begun + 1) om (fun id => (st.opn id).map shV) st.nopn hs ++ [Thing.cells g.next (i sp :: (leftB ts).map .bool)]) := Sk.store 0 rfl [i st.size, HS, i (st.begun + 1), .map om]
    have hnone : st.opn (st.begun + 1) = none := by
      cases ho : st.opn (st.begun + 1) with
      | none => rfl
      | some s => have := tw.op _ s ho; omega
    by_cases ht : ts = []
    · subst ht
      have x2 := S2.cell 0 rfl
      simp (disch := omega) only [L70_8, J70_3, J70_4, J70_5, J70_6, i, sh, sh2, shs, shi, dec, x0, List.length_nil, b_len, hlen]
      refine .inr (.inr ⟨okk, by omega, trivial, ?_⟩)
      refine S2.init.after ⟨HS, om, hs, ?_, ok, ?_⟩
      · simp [startT, TlTs]
      · have hop := tw.op
        refine ⟨tw.s1, tw.s2, tw.h8, tw.nd, by simp [startT]; omega, by simp [startT]; omega, ?_, fun id s hs' => ?_⟩
        · have := tw.no; simp [startT]; omega
        · have := hop id s (by simpa [startT] using hs')
          exact ⟨this.1, by simp only [startT]; omega, this.2.2⟩
    · have hne : ts.length ≠ 0 := fun h => ht (List.length_eq_zero_iff.1 h)
      obtain ⟨H, em, S3, f3⟩ := S2.mset intK 2 (m := om) (mp := fun id => (st.opn id).map shV) (n := st.nopn) rfl ty91 (st.begun + 1) (shV (sp, leftB ts))
      have em : mapSetL Try.prog 74 (.map om) (.int .i64 (st.begun + 1)) (shV (sp, leftB ts)) (h.set t (.cells [i st.size, HS, i (st.begun + 1), .map om] .ex)) = some H := em
      have x3 := S3.cell 0 rfl
      have xc2 := S2.cell (TlTs t st.size HS (st.begun + 1) om (fun id => (st.opn id).map shV) st.nopn hs).length (a := g.next) (vs := i sp :: (leftB ts).map .bool) (by simp)
      have hcc := cells9 (s := (sp, leftB ts)) (leftB_len ts)
      simp (disch := omega) only [L70_8, J70_3, J70_4, J70_5, J70_6, i, sh, sh2, shs, shc, shi, dec, x0, b_len, hlen, xc2, hcc, em, x3]
      refine .inr (.inr ⟨okk, by omega, ?_⟩)
      have S3 := S3.init (Ts := [Thing.cells t [i st.size, HS, i (st.begun + 1), .map om], Thing.vec hdE HS (hs.map HX.hd), Thing.map om intK.k _ _] ++ (hs.map HX.mT ++ hs.map HX.vT))
      refine S3.after ⟨HS, om, hs, ?_, ok, ?_⟩
      · have e1 : upd (fun id => (st.opn id).map shV) (st.begun + 1) (some (shV (sp, leftB ts))) = fun id => ((startT st sp ts).opn id).map shV := by
          funext id
          by_cases e : id = st.begun + 1
          · subst e; rw [upd_at]; simp [startT, ht]
          · rw [upd_ne _ _ e]; simp [startT, e]
        rw [e1]
        simp only [hnone, Option.map_none]
        simp [startT, ht, TlTs]
      · have hop := tw.op
        refine ⟨tw.s1, tw.s2, tw.h8, tw.nd, by simp [startT]; omega, by simp [startT]; omega, ?_, fun id s hs' => ?_⟩
        · have := tw.no; simp [startT, ht]; omega
        · by_cases e : id = st.begun + 1
          · subst e
            simp only [startT, ht, ne_eq, not_false_eq_true, and_self, if_true, Option.some.injEq] at hs'
            subst hs'
            refine ⟨by omega, by simp only [startT]; omega, leftB_len ts, fun j hj => ?_, ?_⟩
            · have hj8 : j < 8 := by have := (List.getElem?_eq_some_iff.1 hj).1; rw [leftB_len] at this; exact this
              rw [leftB_at _ hj8] at hj
              have := okk.2 j (by simpa using hj)
              show j < st.harts.length
              omega
            · obtain ⟨a, l, rfl⟩ : ∃ a l, ts = a :: l := by cases ts with | nil => exact absurd rfl ht | cons a l => exact ⟨a, l, rfl⟩
              have := okk.2 a (by simp)
              refine ⟨a.toNat, ?_⟩
              rw [leftB_at _ (by omega)]
              have : ((a.toNat : Nat) : Int) = a := by omega
              simp [this]
          · have := hop id s (by simpa [startT, e] using hs')
            exact ⟨this.1, by simp only [startT]; omega, this.2.2⟩
end
end Go.Proofs.Ytfbagndfifibiaa

namespace Go.Proofs.Ytfbagndfifibiaa
open Go.ChangeShapes Go.WideShapes Go.ChangeAt Go.RowKit Go.Lm
set_option linter.unusedSimpArgs false
set_option maxRecDepth 10000 in
theorem bs24_1 (h : LHeap) (x : Int) : buildSliceL Try.prog 22 1 [(0, i x)] h = some (.slice h.next 0 1 (.ex 1), h.alloc (.cells [i x] .ex)) := nr (by kernel_rfl)
theorem ap24 {V U : LV} (hU : U.isStr = false) (g : LHeap) : builtinL Try.prog .append [22, 22] [V, U] g = appendL 1 8 V U g := append_ok (by kernel_rfl) hU g
/-- Is a shootdown pending at a hart? -/
def pendB (st : TSt) (a : Int) (id : Int) : Bool := decide (0 ≤ a ∧ a < st.harts.length) && match st.opn id with
  | some s => s.2[a.toNat]? == some true
  | none => false
def PendL (st : TSt) (a : Int) (l : List Int) : Prop := l.Nodup ∧ (∀ id, id ∈ l ↔ pendB st a id = true) ∧ l.Pairwise (· ≤ ·) ∧ l.length ≤ st.nopn
section
variable {F : Nat → Prop} {g h h' : LHeap} {t : Nat} {st : TSt} {S : Nat → Prop}
theorem sorted_pwT (l : List Int) : (sorted l).Pairwise (· ≤ ·) := by
  have h := List.pairwise_mergeSort (le := fun x y : Int => decide (x ≤ y)) (fun a b c h1 h2 => by simp at *; omega) (fun a b => by simp; omega) l
  exact h.imp fun h => by simpa using h
end
end Go.Proofs.Ytfbagndfifibiaa

namespace Go.Proofs.Ytfbagndfifibiaa
open Go.ChangeShapes Go.WideShapes Go.ChangeAt Go.RowKit Go.Lm
set_option linter.unusedSimpArgs false
def noneL (l : List Bool) : Bool := l.all fun b => !b
def handle1 (a : Nat) (st : TSt) (id : Int) : TSt := match st.opn id with
  | none => st
  | some s => { st with harts := st.harts.set a (goneK (st.hart a) s.1), opn := fun j => if j = id then (if noneL (s.2.set a false) = true then none else some (s.1, s.2.set a false)) else st.opn j, nopn := if noneL (s.2.set a false) = true then st.nopn - 1 else st.nopn }
set_option maxRecDepth 100000 in
theorem left_eq {l : List Bool} (h : l.length = 8) : binL Try.prog .eql 131 false (.agg (l.map .bool)) (.agg ((List.replicate 8 false).map .bool)) = some (.bool (noneL l)) := by
  obtain ⟨a, b, c, d, e, f, g, k, rfl⟩ := list8 h
  cases a
  · cases b
    · cases c
      · cases d
        · cases e
          · cases f
            · cases g
              · cases k <;> kernel_rfl
              · show binL Try.prog .eql 131 false (.agg [.bool false, .bool false, .bool false, .bool false, .bool false, .bool false, .bool true, .bool k]) _ = some (.bool false)
                cases k <;> kernel_rfl
            · show binL Try.prog .eql 131 false (.agg [.bool false, .bool false, .bool false, .bool false, .bool false, .bool true, .bool g, .bool k]) _ = some (.bool false)
              kernel_rfl
          · show binL Try.prog .eql 131 false (.agg [.bool false, .bool false, .bool false, .bool false, .bool true, .bool f, .bool g, .bool k]) _ = some (.bool false)
            kernel_rfl
        · show binL Try.prog .eql 131 false (.agg [.bool false, .bool false, .bool false, .bool true, .bool e, .bool f, .bool g, .bool k]) _ = some (.bool false)
          kernel_rfl
      · show binL Try.prog .eql 131 false (.agg [.bool false, .bool false, .bool true, .bool d, .bool e, .bool f, .bool g, .bool k]) _ = some (.bool false)
        kernel_rfl
    · show binL Try.prog .eql 131 false (.agg [.bool false, .bool true, .bool c, .bool d, .bool e, .bool f, .bool g, .bool k]) _ = some (.bool false)
      kernel_rfl
  · show binL Try.prog .eql 131 false (.agg [.bool true, .bool b, .bool c, .bool d, .bool e, .bool f, .bool g, .bool k]) _ = some (.bool false)
    kernel_rfl
theorem bl99 : buildL Try.prog 131 [] = some (.agg ((List.replicate 8 false).map .bool)) := nr (by kernel_rfl)
theorem cells8 (s : Int) {bs : List Bool} (hb : bs.length = 8) : cellO (some 8) 1 (some (.cells (i s :: bs.map .bool) .ex)) = some (.agg (bs.map .bool)) := by
  rw [cells_o _ _ _ _ (by simp [hb]), List.drop_succ_cons, List.drop_zero, List.take_of_length_le (by simp [hb])]
theorem noneL_ex {l : List Bool} (h : noneL l = false) : ∃ j : Nat, l[j]? = some true := by
  unfold noneL at h
  have : ∃ b ∈ l, b = true := by
    refine Classical.byContradiction fun hn => ?_
    have : (l.all fun b => !b) = true := List.all_eq_true.2 fun b hb => by
      cases b with
      | false => rfl
      | true => exact absurd ⟨true, hb, rfl⟩ hn
    rw [this] at h; cases h
  obtain ⟨b, hb, rfl⟩ := this
  exact List.getElem?_of_mem hb
theorem handle1_wf {st : TSt} (tw : TWf st) {a : Nat} {id : Int} {s : Int × List Bool} (ho : st.opn id = some s) (ha : a < st.harts.length) : TWf (handle1 a st id) := by
  obtain ⟨l, hl⟩ := kept_of (st := st) (k := a) ha
  have tl := tw.nd l (List.mem_of_getElem? hl)
  have hno := tw.no
  simp only [handle1, ho]
  refine ⟨tw.s1, tw.s2, by simpa using tw.h8, fun l' hl' => ?_, tw.b0, tw.b1, ?_, fun id' s' hs' => ?_⟩
  · rcases List.mem_or_eq_of_mem_set hl' with h1 | rfl
    · exact tw.nd l' h1
    · rw [hart_in hl]
      have : (goneK l s.1).length ≤ l.length := List.length_filter_le _ _
      refine ⟨tl.1.sublist (List.filter_sublist.map _), by show ((goneK l s.1).length : Int) ≤ st.size; omega⟩
  · simp only
    split <;> omega
  · simp only at hs' ⊢
    by_cases e : id' = id
    · subst e
      have q := tw.op id' s ho
      rw [if_pos rfl] at hs'
      cases hn : noneL (s.2.set a false) with
      | true => rw [if_pos hn] at hs'; cases hs'
      | false =>
        rw [if_neg (by rw [hn]; decide)] at hs'
        cases hs'
        refine ⟨q.1, q.2.1, by simpa using q.2.2.1, fun j hj => ?_, noneL_ex hn⟩
        simp only [List.getElem?_set] at hj
        split at hj
        · split at hj <;> simp at hj
        · simpa using q.2.2.2.1 j hj
    · rw [if_neg e] at hs'
      have q := tw.op id' s' hs'
      exact ⟨q.1, q.2.1, q.2.2.1, fun j hj => by simpa using q.2.2.2.1 j hj, q.2.2.2.2⟩
theorem handle1_harts {st : TSt} {a : Nat} {id : Int} : (handle1 a st id).harts.length = st.harts.length := by
  unfold handle1; split <;> simp
section
variable {F : Nat → Prop} {g h h' : LHeap} {t : Nat} {st : TSt} {S : Nat → Prop}
end
end Go.Proofs.Ytfbagndfifibiaa

namespace Go.Proofs.Ytfbagndfifibiaa
open Go.ChangeShapes Go.WideShapes Go.ChangeAt Go.RowKit Go.Lm
set_option linter.unusedSimpArgs false
def hoV : Option Nat → LV
  | some m => .map m
  | none => .nilm
def hoE : Enc (Option Nat) := ⟨fun o => [hoV o, .nils], 2, fun _ => rfl, fun o v h => by
  simp only [List.mem_cons, List.not_mem_nil, or_false] at h
  rcases h with rfl | rfl
  · cases o <;> rfl
  · rfl, by decide⟩
def newT (a b : Int) : TSt := ⟨b, List.replicate a.toNat [], 0, fun _ => none, 0⟩
set_option maxRecDepth 10000 in
theorem mk90 : ∀ (n : Nat), 1 ≤ n → n ≤ 8 → ∀ h : LHeap, makeSliceL Try.prog 73 (.int .i64 n) (.int .i64 n) h = some (.slice h.next 0 n (.ex n), h.alloc (.cells ((List.replicate n (none : Option Nat)).flatMap hoE.f) .ex))
  | 1, _, _, h => by kernel_rfl
  | 2, _, _, h => by kernel_rfl
  | 3, _, _, h => by kernel_rfl
  | 4, _, _, h => by kernel_rfl
  | 5, _, _, h => by kernel_rfl
  | 6, _, _, h => by kernel_rfl
  | 7, _, _, h => by kernel_rfl
  | 8, _, _, h => by kernel_rfl
  | 0, h, _, _ => absurd h (by decide)
  | n + 9, _, h, _ => absurd h (by omega)
theorem bl93 (b : Int) (a n om : Nat) : buildL Try.prog 76 [(0, i b), (1, .slice a 0 n (.ex n)), (3, .map om)] = some (.agg [i b, .slice a 0 n (.ex n), i 0, .map om]) := nr (by kernel_rfl)
section
variable {F : Nat → Prop} {g h h' : LHeap} {t : Nat} {st : TSt} {S : Nat → Prop}
theorem newT_wf {a b : Int} (h1 : 1 ≤ a ∧ a ≤ 8) (h2 : 1 ≤ b ∧ b ≤ 64) : TWf (newT a b) :=
  ⟨h2.1, h2.2, by simp [newT]; omega, fun l hl => by
    have := (List.mem_replicate.1 hl).2
    subst this
    exact ⟨by simp, by simp [newT]; omega⟩, by simp [newT], by simp [newT], by simp [newT], fun id s hs => by simp [newT] at hs⟩
set_option maxRecDepth 10000 in
theorem New_ok (a b : Int) : Ok Try.prog 12 [i a, i b] g fun v h =>
    (¬ ((1 ≤ a ∧ a ≤ 8) ∧ 1 ≤ b ∧ b ≤ 64) ∧ v = .tuple [.nilp, i 1] ∧ Fr noF g h) ∨
    (((1 ≤ a ∧ a ≤ 8) ∧ 1 ≤ b ∧ b ≤ 64) ∧ ∃ t S, v = .tuple [.ptr t 0, i 0] ∧ (TBox t S (newT a b)).ok h ∧ Fr noF g h ∧ ∀ x, S x → g.next ≤ x ∧ x < h.next) := by
  refine ok12 fun wf _ => ?_
  by_cases h1 : 1 ≤ a
  rotate_left
  · simp (disch := omega) only [F12, J12_0, i, sh, sh2, shi, dec]
    exact .inl ⟨by omega, trivial, Fr.refl _ _⟩
  by_cases h2 : a ≤ 8
  rotate_left
  · simp (disch := omega) only [F12, J12_0, i, sh, sh2, shi, dec]
    exact .inl ⟨by omega, trivial, Fr.refl _ _⟩
  by_cases h3 : 1 ≤ b
  rotate_left
  · simp (disch := omega) only [F12, J12_0, i, sh, sh2, shi, dec]
    exact .inl ⟨by omega, trivial, Fr.refl _ _⟩
  by_cases h4 : b ≤ 64
  rotate_left
  · simp (disch := omega) only [F12, J12_0, i, sh, sh2, shi, dec]
    exact .inl ⟨by omega, trivial, Fr.refl _ _⟩
  obtain ⟨n, rfl⟩ := Int.eq_ofNat_of_zero_le (show 0 ≤ a by omega)
  have hmk := mk90 n (by omega) (by omega) g
  have S1 : Sep noF g (g.alloc (.cells ((List.replicate n (none : Option Nat)).flatMap hoE.f) .ex)) [Thing.vec hoE (.slice g.next 0 n (.ex n)) (List.replicate n none)] := by
    have := (Sep.start noF g).vec (E := hoE) (l := List.replicate n (none : Option Nat)) (.slice g.next 0 n (.ex n)) (h' := g.alloc (.cells ((List.replicate n (none : Option Nat)).flatMap hoE.f) .ex)) ?_ ?_ ?_ (Fr.alloc _ _) ?_
    · exact this
    · refine Row.of (get_alloc_eq _ _) (by simp) ?_ ?_
      · rw [List.drop_zero, List.take_of_length_le (by rw [flat_len]; exact Nat.le_refl _)]
      · rw [flat_len]; omega
    · exact ⟨Nat.le_refl _, fun hh => by omega⟩
    · exact ⟨_, .ex, get_alloc_eq _ _, by decide⟩
    · intro x hx; cases hx; exact ⟨Nat.le_refl _, Nat.lt_succ_self _⟩
  have S2 := S1.newMap intK.k
  have S3 := S2.new [i b, .slice g.next 0 n (.ex n), i 0, .map (g.next + 1)]
  have x3 := S3.cell 2 rfl
  have hl3 := (S3.row (V := .slice g.next 0 n (.ex n)) 0 rfl).len (P := Try.prog) ty90
  rw [List.length_replicate] at hl3
  simp (disch := omega) only [F12, J12_0, J12_1, J12_2, J12_4, i, sh, sh2, shc, shi, dec, hmk, bl93, b_len, LHeap.next_alloc]
  simp only [LHeap.next_alloc, i] at x3 S3
  simp (disch := omega) only [x3, i, sh, sh2, shc, hl3]
  refine loop_n (fun nn s h => ∃ (k : Nat) (ms : List Nat), s = i (k : Int) ∧ k + nn = n ∧ ms.length = k ∧ Sep noF g h ([Thing.vec hoE (.slice g.next 0 n (.ex n)) (ms.map some ++ List.replicate nn none), Thing.map (g.next + 1) intK.k (fun _ => none) 0, Thing.cells (g.next + 2) [i b, .slice g.next 0 n (.ex n), i 0, .map (g.next + 1)]] ++ ms.map fun m => Thing.map m keyK.k (fun _ => none) 0)) (n := n)
    ⟨0, [], rfl, by omega, rfl, by simpa using S3⟩ ?_
  rintro nn s h ⟨k, ms, rfl, hk, hm, S⟩
  cases nn with
  | zero =>
    simp (disch := omega) only [L12_5, J12_3, i, sh, sh2, shi, dec]
    refine .inr ⟨⟨⟨h1, h2⟩, h3, h4⟩, g.next + 2, ?_⟩
    have hSn : ms.length = n := by omega
    have SH : Sep noF g h ([Thing.vec hdE (.slice g.next 0 n (.ex n)) (ms.map fun m => ((m, .nils) : Nat × LV)), Thing.map (g.next + 1) intK.k (fun _ => none) 0, Thing.cells (g.next + 2) [i b, .slice g.next 0 n (.ex n), i 0, .map (g.next + 1)]] ++ ms.map fun m => Thing.map m keyK.k (fun _ => none) 0) := by
      obtain ⟨R, G, M⟩ := S.at (T := Thing.vec hoE (.slice g.next 0 n (.ex n)) (ms.map some ++ List.replicate 0 none)) 0 rfl
      refine S.put 0 rfl (Thing.vec hdE (.slice g.next 0 n (.ex n)) (ms.map fun m => ((m, .nils) : Nat × LV))) (Fr.refl _ _) ⟨R.conv rfl ?_ (by simp), G, M⟩ fun x hx => ⟨.inl hx, S.lt (T := Thing.vec hoE (.slice g.next 0 n (.ex n)) (ms.map some ++ List.replicate 0 none)) 0 rfl hx⟩
      simp only [List.replicate_zero, List.append_nil]
      have key : ∀ ms : List Nat, (ms.map fun m => ((m, .nils) : Nat × LV)).flatMap hdE.f = (ms.map some).flatMap hoE.f := by
        intro ms
        induction ms with
        | nil => rfl
        | cons m ms ih => rw [List.map_cons, List.map_cons, List.flatMap_cons, List.flatMap_cons, ih]; rfl
      exact key ms
    have S5 := Sep.nilsL keyE ms SH
    let hs : List HX := ms.map fun m => ⟨m, .nils, [], fun _ => none, 0⟩
    have hperm : Sep noF g h (TlTs (g.next + 2) b (.slice g.next 0 n (.ex n)) 0 (g.next + 1) (fun id => ((newT n b).opn id).map shV) 0 hs) := by
      have p := S5.perm (Us := TlTs (g.next + 2) b (.slice g.next 0 n (.ex n)) 0 (g.next + 1) (fun id => ((newT n b).opn id).map shV) 0 hs) (by
        simp only [TlTs, hs, List.map_map, List.append_assoc]
        exact List.Perm.append_right _ (List.perm_append_comm (l₁ := [Thing.vec hdE (.slice g.next 0 n (.ex n)) (ms.map fun m => ((m, .nils) : Nat × LV)), Thing.map (g.next + 1) intK.k (fun _ => none) 0]) (l₂ := [Thing.cells (g.next + 2) [i b, .slice g.next 0 n (.ex n), i 0, .map (g.next + 1)]])))
      exact p
    have A := hperm.after (D := TD (g.next + 2)) (x := newT n b) ⟨_, _, hs, rfl, ?_, newT_wf ⟨h1, h2⟩ ⟨h3, h4⟩⟩
    · obtain ⟨S', B, f, nw⟩ := A
      exact ⟨S', rfl, B, f, fun x hx => ⟨(nw x hx).1.resolve_left id, (nw x hx).2⟩⟩
    · have : ∀ (ms : List Nat) (hs : List HX), hs = ms.map (fun m => ⟨m, .nils, [], fun _ => none, 0⟩) → All2 HXok hs (List.replicate ms.length []) := by
        intro ms
        induction ms with
        | nil => intro hs h; subst h; trivial
        | cons m ms ih => intro hs h; subst h; exact ⟨⟨rfl, rfl⟩, ih _ rfl⟩
      have := this ms hs rfl
      rw [hSn] at this
      exact this
  | succ nn =>
    have x2 := S.cell 2 rfl
    have hln : ms.length < (ms.map some ++ List.replicate (nn + 1) (none : Option Nat)).length := by simp only [List.length_append, List.length_map, List.length_replicate]; omega
    have hat : (ms.map some ++ List.replicate (nn + 1) (none : Option Nat))[k]? = some none := by
      rw [List.getElem?_append_right (by simp; omega)]
      simp [hm]
    have S1 := S.newMap keyK.k
    have hix := (S1.row (E := hoE) (V := .slice g.next 0 n (.ex n)) (l := ms.map some ++ List.replicate (nn + 1) none) 0 rfl).ix (k := .i64) (i := k) (by omega)
    obtain ⟨pa, po, h2, hp, est, S2, _, _⟩ := S1.stf (E := hoE) (V := .slice g.next 0 n (.ex n)) (l := ms.map some ++ List.replicate (nn + 1) none) 0 rfl (k := k) (j := 0) (some h.next) (v := .map h.next) rfl hat (by decide) rfl
    have e2 : hoE.e = 2 := rfl
    rw [e2] at hix hp
    rw [hp] at hix
    rw [Nat.add_zero] at est
    simp (disch := omega) only [L12_5, i, sh, sh2, shi, dec, x2, hix, est]
    refine ⟨nn, by omega, k + 1, ms ++ [h.next], by simp, by omega, by simp; omega, ?_⟩
    have e : (ms.map some ++ List.replicate (nn + 1) (none : Option Nat)).set k (some h.next) = (ms ++ [h.next]).map some ++ List.replicate nn none := by
      rw [List.set_append_right _ _ (by simp; omega)]
      simp [hm, List.replicate_succ]
    rw [e] at S2
    simpa using S2
end
end Go.Proofs.Ytfbagndfifibiaa
