/-
  phys: a memory's bytes.
-/
import Derived.Test.YtfbagndfifibiaaSaP
import Derived.Test.YtfbagndfifibiaaLm7x
import Derived.Test.YtfbagndfifibiaaSrt
set_option linter.all false
namespace Go.Proofs.Ytfbagndfifibiaa
open Go.ChangeShapes Go.WideShapes Go.ChangeAt Go.RowKit Go.Lm
set_option linter.unusedSimpArgs false
set_option maxRecDepth 10000
theorem ph_tp : Try.prog.underlying 29 = some (.pointer 69) := by kernel_rfl
theorem ph_ts : Try.prog.underlying 67 = some (.slice 5) := by kernel_rfl
theorem ph_tb : Try.prog.underlying 5 = some (.int .u8) := by kernel_rfl
theorem ph_zb : zeroL Try.prog 5 = some (B8 0) := by kernel_rfl
theorem ph_sz : sizeL Try.prog 5 = some 1 := by kernel_rfl
/-- A memory: its struct at m, its bytes at a. -/
structure MemAt (h : LHeap) (m a : Nat) (bs : List Int) : Prop where
  s : h.get m = some (.cells [.slice a 0 bs.length (.ex bs.length)] .ex)
  b : h.get a = some (.cells (bs.map B8) .ex)
  le : bs.length ≤ 1048576
  pos : 256 ≤ bs.length
  mul : bs.length % 256 = 0
section
variable {g h h' : LHeap} {m a : Nat} {bs : List Int}
theorem MemAt.fr (M : MemAt g m a bs) {F : Nat → Prop} (f : Fr F g h) (hm : m < g.next) (ha : a < g.next) (h1 : ¬ F m) (h2 : ¬ F a) : MemAt h m a bs := ⟨(f.eq m hm h1).trans M.s, (f.eq a ha h2).trans M.b, M.le, M.pos, M.mul⟩
theorem ph_c (V : LV) : cellO none 0 (some (.cells [V] .ex)) = some V := rfl
theorem ph_tdiv (n : Nat) : ((n : Int).tdiv 256) = ((n / 256 : Nat) : Int) := by rw [Int.tdiv_eq_ediv_of_nonneg (by omega)]; omega
theorem Frames_ok (M : MemAt h m a bs) : Ok Try.prog 21 [.ptr m 0] h fun v h' => v = i ((bs.length / 256 : Nat) : Int) ∧ h' = h := by
  refine ok21 fun _ _ => ?_
  have x := M.s
  have le := M.le
  have hq : binL Try.prog .quo 3 true (.int .i64 (bs.length : Int)) (.int .i64 256) = some (.int .i64 ((bs.length / 256 : Nat) : Int)) := by
    rw [binL_quo_int _ _ _ _ _ (by decide), ph_tdiv, wrap_in (by omega) (by omega)]
  have hl : lenL Try.prog 67 (.slice a 0 bs.length (.ex bs.length)) h = some (.int .i64 bs.length) := by simp only [lenL, ph_ts]
  simp (disch := omega) only [F21, i, sh, sh2, nil_p ph_tp true, x, b_len, hl, hq]
  exact ⟨trivial, trivial⟩
/-- Where a span may be. -/
def spanIn (bs : List Int) (x n : Int) : Prop := 0 ≤ n ∧ 0 ≤ x ∧ x + n ≤ bs.length
instance (bs : List Int) (x n : Int) : Decidable (spanIn bs x n) := by unfold spanIn; infer_instance
theorem span_ok (M : MemAt h m a bs) (x n : Int) (hn : 0 < n) : Ok Try.prog 60 [.ptr m 0, i x, i n] h fun v h' => h' = h ∧ v = (if spanIn bs x n then .tuple [.slice a x.toNat n.toNat (.ex n.toNat), i 0] else .tuple [.nils, i 10]) := by
  refine ok60 fun _ _ => ?_
  have xm := M.s
  have le := M.le
  have hl : lenL Try.prog 67 (.slice a 0 bs.length (.ex bs.length)) h = some (.int .i64 bs.length) := by simp only [lenL, ph_ts]
  by_cases h1 : x < 0
  · simp (disch := omega) only [F60, i, sh, sh2, shi, dec, nil_p ph_tp true, xm, b_len, hl]
    exact ⟨trivial, by rw [if_neg]; unfold spanIn; omega⟩
  by_cases h2 : (bs.length : Int) < x
  · simp (disch := omega) only [F60, i, sh, sh2, shi, dec, nil_p ph_tp true, xm, b_len, hl]
    exact ⟨trivial, by rw [if_neg]; unfold spanIn; omega⟩
  by_cases h3 : (bs.length : Int) - x < n
  · simp (disch := omega) only [F60, i, sh, sh2, shi, dec, nil_p ph_tp true, xm, b_len, hl]
    exact ⟨trivial, by rw [if_neg]; unfold spanIn; omega⟩
  have hc : cutT Try.prog 67 (.slice a 0 bs.length (.ex bs.length)) (some (.int .i64 x)) (some (.int .i64 (x + n))) (some (.int .i64 (x + n))) (limL (.slice a 0 bs.length (.ex bs.length)) h) = some (.slice a x.toNat n.toNat (.ex n.toNat)) := by
    rw [(cut_t ph_ts ph_sz (by decide) _ _).2.2.2.2.2]
    have := cut3_span (n := bs.length) (a := a) (lim := limL (.slice a 0 bs.length (.ex bs.length)) h) (len := bs.length) (lo := x) (hi := x + n) (by omega) (by omega) (by omega) rfl
    rw [show (x + n - x) = n by omega] at this
    exact this
  simp (disch := omega) only [F60, i, sh, sh2, shi, dec, nil_p ph_tp true, xm, b_len, hl, hc]
  exact ⟨trivial, by rw [if_pos]; unfold spanIn; omega⟩
def frameIn (bs : List Int) (x : Int) : Prop := 0 ≤ x ∧ x < ((bs.length / 256 : Nat) : Int)
instance (bs : List Int) (x : Int) : Decidable (frameIn bs x) := by unfold frameIn; infer_instance
theorem frame_ok (M : MemAt h m a bs) (x : Int) : Ok Try.prog 41 [.ptr m 0, i x] h fun v h' => h' = h ∧ v = (if frameIn bs x then .tuple [.slice a (256 * x.toNat) 256 (.ex 256), i 0] else .tuple [.nils, i 10]) := by
  refine ok41 fun _ _ => ?_
  have le := M.le
  have np := (nil_p (P := Try.prog) ph_tp true).1
  by_cases h1 : x < 0
  · simp (disch := omega) only [F41, i, sh, sh2, shi, dec, np]
    exact ⟨trivial, by rw [if_neg]; unfold frameIn; omega⟩
  simp (disch := omega) only [F41, i, sh, sh2, shi, dec, np]
  refine (Frames_ok M).mono ?_
  rintro _ h ⟨rfl, rfl⟩
  by_cases h2 : ((bs.length / 256 : Nat) : Int) ≤ x
  · simp (disch := omega) only [i, sh, sh2, shi, dec]
    exact ⟨trivial, by rw [if_neg]; unfold frameIn; omega⟩
  have hw : IntKind.i64.wrap (x * 256) = x * 256 := wrap_in (by omega) (by omega)
  simp (disch := omega) only [i, sh, sh2, shi, dec]
  refine (span_ok M (x * 256) 256 (by omega)).mono ?_
  rintro _ h ⟨rfl, rfl⟩
  have mul := M.mul
  rw [if_pos (show spanIn bs (x * 256) 256 by unfold spanIn; omega), if_pos (show frameIn bs x by unfold frameIn; omega)]
  simp (disch := omega) only [i, sh, sh2]
  refine ⟨trivial, ?_⟩
  congr 3
  omega
theorem word_ok (M : MemAt h m a bs) (x : Int) (hx : 0 ≤ x) : Ok Try.prog 73 [.ptr m 0, i x] h fun v h' => h' = h ∧ v = (if x % 4 = 0 ∧ spanIn bs x 4 then .tuple [.slice a x.toNat 4 (.ex 4), i 0] else .tuple [.nils, i 10]) := by
  refine ok73 fun _ _ => ?_
  have np := (nil_p (P := Try.prog) ph_tp true).1
  have hr : binL Try.prog .rem 3 true (.int .i64 x) (.int .i64 4) = some (.int .i64 (x % 4)) := by
    rw [binL_rem_int _ _ _ _ _ (by decide), Int.tmod_eq_emod_of_nonneg hx]
  by_cases h1 : x % 4 = 0
  · have ef : (!(x % 4 == 0)) = false := by simp [h1]
    simp (disch := omega) only [F73, i, sh, sh2, np, hr, binL_neq_int, ef]
    refine (span_ok M x 4 (by omega)).mono ?_
    rintro _ h ⟨rfl, rfl⟩
    by_cases h2 : spanIn bs x 4
    · rw [if_pos h2, if_pos ⟨h1, h2⟩]
      simp (disch := omega) only [i, sh, sh2]
      exact ⟨trivial, rfl⟩
    · rw [if_neg h2, if_neg fun h => h2 h.2]
      simp (disch := omega) only [i, sh, sh2]
      exact ⟨trivial, trivial⟩
  · have ef : (!(x % 4 == 0)) = true := by simp [h1]
    rw [if_neg fun h => h1 h.1]
    simp (disch := omega) only [F73, i, sh, sh2, np, hr, binL_neq_int, ef]
    exact ⟨trivial, trivial⟩
def zerosB (n : Nat) : List Int := List.replicate n 0
/-- A frame's bytes become 0. -/
def zeroF (bs : List Int) (x : Int) : List Int := if frameIn bs x then putB bs (256 * x.toNat) (zerosB 256) else bs
theorem frame_fit {x : Int} (hx : frameIn bs x) : 256 * x.toNat + 256 ≤ bs.length := by
  unfold frameIn at hx; omega
theorem zeroF_len (bs : List Int) (x : Int) : (zeroF bs x).length = bs.length := by
  unfold zeroF
  split
  · rename_i hx; exact putB_len (by have := frame_fit hx; simpa [zerosB] using this)
  · rfl
theorem Zero_ok (M : MemAt h m a bs) (x : Int) : Ok Try.prog 22 [.ptr m 0, i x] h fun v h' => v = i (if frameIn bs x then 0 else 10) ∧ h' = (if frameIn bs x then h.set a (.cells ((zeroF bs x).map B8) .ex) else h) := by
  refine ok22 fun _ _ => ?_
  simp (disch := omega) only [F22, i]
  refine (frame_ok M x).mono ?_
  rintro _ h ⟨rfl, rfl⟩
  by_cases hx : frameIn bs x
  · rw [if_pos hx, if_pos hx, if_pos hx]
    have fit := frame_fit hx
    have hc := span_clear (P := Try.prog) (h := h) (off := 256 * x.toNat) (n := 256) ph_ts ph_zb M.b (.ex 256) fit
    rw [if_neg (by decide)] at hc
    have hb : builtinL Try.prog .clear [67] [.slice a (256 * x.toNat) 256 (.ex 256)] h = some (undefL, h.set a (.cells ((zeroF bs x).map B8) .ex)) := by
      simp only [builtinL, hc, Option.map_some, zeroF, if_pos hx, zerosB]
    simp (disch := omega) only [i, sh, sh2, hb]
    exact ⟨trivial, trivial⟩
  · rw [if_neg hx, if_neg hx, if_neg hx]
    have hb : builtinL Try.prog .clear [67] [.nils] h = some (undefL, h) := by simp only [builtinL, clearL, ph_ts, Option.map_some]
    simp (disch := omega) only [i, sh, sh2, hb]
    exact ⟨trivial, trivial⟩
theorem ph_bs (h : LHeap) : buildSliceL Try.prog 67 0 [] h = some (.slice h.next 0 0 (.ex 0), h.alloc (.cells [] .ex)) := nr (by kernel_rfl)
theorem ph_ap {V U : LV} (hU : U.isStr = false) (g : LHeap) : builtinL Try.prog .append [67, 67] [V, U] g = appendL 1 1 V U g := append_ok (by kernel_rfl) hU g
def frameB (bs : List Int) (x : Int) : List Int := (bs.drop (256 * x.toNat)).take 256
/-! A word is stored. -/
def byteN (x : Int) (k : Nat) : Int := IntKind.u8.wrap (x.fdiv (2 ^ (8 * k)))
def wordB (x : Int) (k : Nat) : List Int := (List.range k).map (byteN x)
theorem wordB_len (x : Int) (k : Nat) : (wordB x k).length = k := by simp [wordB]
theorem ph_shr (x : Int) (n : Nat) (hn : n < 32) : binL Try.prog .shr 53 false (.int .u32 x) (.int .i64 (n : Int)) = some (.int .u32 (x.fdiv (2 ^ n))) := by
  have e : binL Try.prog .shr 53 false (.int .u32 x) (.int .i64 (n : Int)) = ofPure (Op.shift .shr .u32 x .i64 (n : Int)) := rfl
  rw [e]
  unfold Op.shift
  have e2 : min n IntKind.u32.bits = n := by show min n 32 = n; omega
  have e3 : ¬ ((n : Int) < 0) := by omega
  simp [ofPure, e2, if_neg e3]
  rfl
theorem ph_cv (y : Int) (g : LHeap) : convL Try.prog 53 5 (.int .u32 y) g = some (.int .u8 (IntKind.u8.wrap y), g) := nr (by kernel_rfl)
theorem putB_snoc {bs l : List Int} {off : Nat} {b : Int} (h : off + l.length < bs.length) : putB bs off (l ++ [b]) = (putB bs off l).set (off + l.length) b := by
  apply List.ext_getElem?
  intro j
  rw [putB_get (by simp; omega), List.getElem?_set, putB_get (by omega), putB_len (by omega)]
  by_cases h1 : off + l.length = j
  · subst h1
    rw [if_pos ⟨by omega, by simp⟩, if_pos rfl, if_pos h, List.getElem?_append_right (by omega)]
    simp
  · rw [if_neg h1]
    by_cases h2 : off ≤ j ∧ j < off + l.length
    · rw [if_pos ⟨h2.1, by simp; omega⟩, if_pos h2, List.getElem?_append_left (by omega)]
    · rw [if_neg h2, if_neg (by simp; omega)]
/-- The bytes at a became bs'; nothing else turned. -/
structure MemTo (h h' : LHeap) (a : Nat) (bs' : List Int) : Prop where
  fr : Fr (fun b => b = a) h h'
  at_ : h'.get a = some (.cells (bs'.map B8) .ex)
theorem ph_set {h : LHeap} {a : Nat} {bs : List Int} {k : Nat} (x : h.get a = some (.cells (bs.map B8) .ex)) (hk : k < bs.length) (b : Int) : storeV 1 (.ptr a k) (.int .u8 b) h = some (h.set a (.cells ((bs.set k b).map B8) .ex)) := by
  rw [store_o _ _ _ rfl, x, set_o, List.getElem?_map, List.getElem?_eq_getElem hk, List.map_set]
  rfl
theorem Store32_ok (M : MemAt h m a bs) (x : Int) (hx : 0 ≤ x) (w : Int) : Ok Try.prog 68 [.ptr m 0, i x, .int .u32 w] h fun v h' => v = i (if x % 4 = 0 ∧ spanIn bs x 4 then 0 else 10) ∧ MemTo h h' a (if x % 4 = 0 ∧ spanIn bs x 4 then putB bs x.toNat (wordB w 4) else bs) := by
  refine ok68 fun _ _ => ?_
  simp (disch := omega) only [F68, J68_0, i]
  refine (word_ok M x hx).mono ?_
  rintro _ h ⟨rfl, rfl⟩
  by_cases hc : x % 4 = 0 ∧ spanIn bs x 4
  · rw [if_pos hc, if_pos hc, if_pos hc]
    have fit : x.toNat + 4 ≤ bs.length := by have := hc.2; unfold spanIn at this; omega
    have hl : ∀ h, lenL Try.prog 67 (.slice a x.toNat 4 (.ex 4)) h = some (.int .i64 4) := fun h => by simp only [lenL, ph_ts]; rfl
    simp (disch := omega) only [J68_1, J68_2, J68_4, i, sh, sh2, shi, dec, b_len, hl]
    refine loop_n (fun n s h' => ∃ k : Nat, s = .int .i64 (k : Int) ∧ k + n = 4 ∧ MemTo h h' a (putB bs x.toNat (wordB w k))) (n := 4) ⟨0, rfl, rfl, Fr.refl _ _, ?_⟩ ?_
    · have := M.b
      simpa [putB, wordB] using this
    · rintro n s h1 ⟨k, rfl, hk, T⟩
      cases n with
      | zero =>
        obtain rfl : k = 4 := by omega
        simp (disch := omega) only [L68_5, J68_3, i, sh, sh2, shi, dec]
        exact ⟨trivial, T⟩
      | succ n =>
        have hs : binL Try.prog .shr 53 false (.int .u32 w) (.int .i64 (8 * (k : Int))) = some (.int .u32 (w.fdiv (2 ^ (8 * k)))) := by
          have := ph_shr w (8 * k) (by omega)
          rw [show ((8 * k : Nat) : Int) = 8 * (k : Int) by omega] at this
          exact this
        have hst := ph_set T.at_ (k := x.toNat + k) (by rw [putB_len (by rw [wordB_len]; omega)]; omega) (byteN w k)
        have hix : ixAddrL none 1 (.slice a x.toNat 4 (.ex 4)) (.int .i64 (k : Int)) = some (.ptr a (x.toNat + k)) := by rw [ix_nat _ _ (by omega), Nat.mul_one]
        unfold byteN at hst
        simp (disch := omega) only [L68_5, i, sh, sh2, shi, dec, hs, ph_cv, hix, hst]
        refine ⟨n, by omega, k + 1, rfl, by omega, T.fr.set' _ (.inr rfl), ?_⟩
        rw [get_set_eq, show wordB w (k + 1) = wordB w k ++ [byteN w k] by simp [wordB, List.range_succ], putB_snoc (by rw [wordB_len]; omega), wordB_len]
        rfl
  · rw [if_neg hc, if_neg hc, if_neg hc]
    simp (disch := omega) only [J68_1, i, sh, sh2, shi, dec]
    exact ⟨trivial, Fr.refl _ _, M.b⟩
theorem rep_b8 (n : Nat) : (List.replicate n (LV.cells (B8 0))).flatten = (List.replicate n (0 : Int)).map B8 := by
  rw [List.map_replicate]
  induction n with
  | zero => rfl
  | succ n ih => rw [List.replicate_succ, List.flatten_cons, ih, List.replicate_succ]; rfl
theorem ph_mk {n : Nat} (hn : n ≤ 2 ^ 40) (h : LHeap) : makeSliceL Try.prog 67 (i n) (i n) h = some (.slice h.next 0 n (.ex n), h.alloc (.cells ((zerosB n).map B8) .ex)) := by
  have e : makeSliceL Try.prog 67 (i n) (i n) h = if 0 ≤ (n : Int) ∧ (n : Int) ≤ n ∧ (1 : Int) * n ≤ 2 ^ 48 ∧ (n : Int) < 2 ^ 62 ∧ (B8 0).cells.length = 1 ∧ (B8 0).cellsOK = true then
            some (.slice h.next 0 (n : Int).toNat (.ex (n : Int).toNat), h.alloc (.cells (List.replicate (n : Int).toNat (B8 0).cells).flatten .ex)) else none := nr (by kernel_rfl)
  rw [e, if_pos ⟨by omega, by omega, by omega, by omega, rfl, rfl⟩]
  simp only [Int.toNat_natCast]
  rw [rep_b8]
  rfl
theorem ph_bl (a n : Nat) : buildL Try.prog 69 [(0, .slice a 0 n (.ex n))] = some (.agg [.slice a 0 n (.ex n)]) := nr (by kernel_rfl)
abbrev memTs (m a : Nat) (bs : List Int) : List Thing := [Thing.cells a (bs.map B8), Thing.cells m [.slice a 0 bs.length (.ex bs.length)]]
theorem memNew_no {x : Int} (h : ¬ (1 ≤ x ∧ x ≤ 4096)) : Ok Try.prog 10 [i x] g fun v h => v = .tuple [.nilp, i 1] ∧ h = g := by
  refine ok10 fun _ _ => ?_
  by_cases h1 : x < 1
  · simp (disch := omega) only [F10, i, sh, sh2, shi, dec]
    exact ⟨trivial, trivial⟩
  · simp (disch := omega) only [F10, i, sh, sh2, shi, dec]
    exact ⟨trivial, trivial⟩
theorem memNew_ok {x : Int} (h0 : 1 ≤ x) (h1 : x ≤ 4096) : Ok Try.prog 10 [i x] g fun v h => ∃ m a, v = .tuple [.ptr m 0, i 0] ∧ Sep noF g h (memTs m a (zerosB (256 * x.toNat))) := by
  refine ok10 fun _ _ => ?_
  obtain ⟨k, rfl⟩ : ∃ k : Nat, x = k := ⟨x.toNat, by omega⟩
  have hmk := ph_mk (n := 256 * k) (by omega) g
  rw [show ((256 * k : Nat) : Int) = (k : Int) * 256 by omega] at hmk
  have hb := ph_bl g.next (256 * k)
  have hn : newL (.agg [.slice g.next 0 (256 * k) (.ex (256 * k))]) (g.alloc (.cells ((zerosB (256 * k)).map B8) .ex)) = some (.ptr (g.next + 1) 0, (g.alloc (.cells ((zerosB (256 * k)).map B8) .ex)).alloc (.cells [.slice g.next 0 (256 * k) (.ex (256 * k))] .ex)) := new_agg _ _ (fun v hv => by cases hv with | head => rfl | tail _ h => cases h)
  simp only [i] at hmk
  simp (disch := omega) only [F10, i, sh, sh2, shi, dec, hmk, hb, hn]
  have S := ((Sep.start noF g).new ((zerosB (256 * k)).map B8)).new [.slice g.next 0 (256 * k) (.ex (256 * k))]
  refine ⟨g.next + 1, g.next, rfl, ?_⟩
  have e : (zerosB (256 * (k : Int).toNat)).length = 256 * k := by simp [zerosB]
  unfold memTs
  rw [e]
  exact S
end
end Go.Proofs.Ytfbagndfifibiaa

namespace Go.Proofs.Ytfbagndfifibiaa
open Go.ChangeShapes Go.WideShapes Go.ChangeAt Go.RowKit Go.Lm
set_option linter.unusedSimpArgs false
theorem ty50 : Try.prog.underlying 22 = some (.slice 3) := by kernel_rfl
theorem u3 : Try.prog.underlying 3 = some (.int .i64) := by kernel_rfl
/-- The first place that a test takes, or -1. -/
def firstOf {X : Type} (p : X → Bool) : List X → Int
  | [] => -1
  | y :: l => if p y = true then 0 else if firstOf p l = -1 then -1 else firstOf p l + 1
theorem firstOf_ge {X : Type} (p : X → Bool) : ∀ l : List X, -1 ≤ firstOf p l
  | [] => by simp [firstOf]
  | y :: l => by have := firstOf_ge p l; simp only [firstOf]; split; omega; split <;> omega
theorem firstOf_step {X : Type} {p : X → Bool} {y : X} {l : List X} {k : Nat} (h : p y = false) : (if firstOf p (y :: l) = -1 then (-1 : Int) else firstOf p (y :: l) + k) = (if firstOf p l = -1 then -1 else firstOf p l + (k + 1 : Nat)) := by
  have h1 := firstOf_ge p l
  simp only [firstOf, h, Bool.false_eq_true, if_false]
  by_cases he : firstOf p l = -1
  · simp [he]
  · rw [if_neg he, if_neg (by omega)]
    omega
set_option maxRecDepth 10000 in
theorem bs50_0 (h : LHeap) : buildSliceL Try.prog 22 0 [] h = some (.slice h.next 0 0 (.ex 0), h.alloc (.cells [] .ex)) := nr (by kernel_rfl)
theorem ap50 {V U : LV} (hU : U.isStr = false) (g : LHeap) : builtinL Try.prog .append [22, 22] [V, U] g = appendL 1 8 V U g := append_ok (by kernel_rfl) hU g
/-- slices.Clone -/
theorem clone64_ok {g : LHeap} {V : LV} {l} (R : Row g V intE l) (hb : l.length * 8 * 2 ≤ 2 ^ 48 ∨ (l.length * 5 + 2048) * 8 ≤ 2 ^ 50) : Ok Try.prog 59 [V] g fun v h => Vec intE g.next h v l ∧ Mine h v ∧ Fr noF g h := by
  refine ok59 fun wf lt => ?_
  rcases R.nil_or (P := Try.prog) ty50 true with ⟨rfl, rfl⟩ | ⟨_, hn, _⟩
  · simp (disch := omega) only [F59, sh, nil_s (P := Try.prog) ty50 true]
    exact ⟨Vec.nils _ _, trivial, Fr.refl _ _⟩
  · obtain ⟨V', h', e, O, mi, f⟩ := Vec.clone (E := intE) (bytes := 8) R wf hb
    have e : appendL 1 8 (.slice g.next 0 0 (.ex 0)) V (g.alloc (.cells [] .ex)) = some (V', h') := e
    simp (disch := omega) only [F59, sh, hn, bs50_0, ap50 R.not_str, e]
    exact ⟨O, mi, f⟩
theorem firstOf_iff {X : Type} (p : X → Bool) : ∀ l : List X, 0 ≤ firstOf p l ↔ l.any p = true
  | [] => by simp [firstOf]
  | y :: l => by
    have := firstOf_ge p l
    have ih := firstOf_iff p l
    have e : firstOf p (y :: l) = if p y = true then 0 else if firstOf p l = -1 then -1 else firstOf p l + 1 := rfl
    rw [e, List.any_cons]
    by_cases hp : p y = true
    · rw [if_pos hp, hp]; simp
    · rw [if_neg hp, Bool.eq_false_iff.2 hp, Bool.false_or, ← ih]
      by_cases h : firstOf p l = -1
      · rw [if_pos h, h]
      · rw [if_neg h]
        omega
theorem firstOf_has {X : Type} (p : X → Bool) (l : List X) : decide (0 ≤ firstOf p l) = l.any p := by
  rw [Bool.eq_iff_iff, decide_eq_true_iff, firstOf_iff]
section
variable {g : LHeap} {V : LV} {l : List Int}
end
end Go.Proofs.Ytfbagndfifibiaa

namespace Go.Proofs.Ytfbagndfifibiaa
open Go.ChangeShapes Go.WideShapes Go.ChangeAt Go.RowKit Go.Lm
set_option linter.unusedSimpArgs false
set_option maxRecDepth 10000
structure FSt where
  first : Int
  harts : Nat
  counts : List Int
  lists : List (List Int)
  common : List Int
  bs : List Int
def FSt.inR (st : FSt) (y : Int) : Prop := st.first ≤ y ∧ y < st.first + st.counts.length
instance (st : FSt) (y : Int) : Decidable (st.inR y) := by unfold FSt.inR; infer_instance
def FSt.cnt (st : FSt) (y : Int) : Int := if st.inR y then (st.counts[(y - st.first).toNat]?).getD 0 else 0
def FSt.all (st : FSt) : List Int := st.lists.flatten ++ st.common
def FSt.freeN (st : FSt) : Nat := st.common.length + st.lists.flatten.length
def FSt.isH (st : FSt) (k : Int) : Prop := 0 ≤ k ∧ k < st.harts
instance (st : FSt) (y : Int) : Decidable (st.isH y) := by unfold FSt.isH; infer_instance
def usedL (l : List Int) : Nat := (l.filter fun c => decide (0 < c)).length
structure FWf (st : FSt) : Prop where
  h1 : 1 ≤ st.harts
  h8 : st.harts ≤ 8
  l8 : st.lists.length = 8
  le : ∀ k : Nat, st.harts ≤ k → k < 8 → st.lists[k]? = some []
  f0 : 0 ≤ st.first
  n1 : 1 ≤ st.counts.length
  b1 : st.bs.length ≤ 1048576
  b2 : 256 ≤ st.bs.length
  b3 : st.bs.length % 256 = 0
  fit : st.first + st.counts.length ≤ ((st.bs.length / 256 : Nat) : Int)
  cr : ∀ c ∈ st.counts, 0 ≤ c ∧ c ≤ 1048576
  I1 : ∀ y, st.all.count y = if st.inR y ∧ st.cnt y = 0 then 1 else 0
  I2 : st.freeN + usedL st.counts = st.counts.length
  so : st.common.Pairwise fun x y => decide (x ≤ y) = true
  z : ∀ y ∈ st.all, frameB st.bs y = zerosB 256
theorem FWf.mem {st : FSt} (w : FWf st) {y : Int} (h : y ∈ st.all) : st.inR y ∧ st.cnt y = 0 := by
  have := w.I1 y
  have h2 := List.count_pos_iff.2 h
  by_cases h3 : st.inR y ∧ st.cnt y = 0
  · exact h3
  · rw [if_neg h3] at this; omega
theorem FWf.freeLe {st : FSt} (w : FWf st) : st.freeN ≤ 4096 := by
  have := w.I2; have := w.fit; have := w.b1; have := w.f0; omega
theorem len_flat_le {X : Type} {ls : List (List X)} {l : List X} (h : l ∈ ls) : l.length ≤ ls.flatten.length := by
  induction ls with
  | nil => cases h
  | cons a ls ih =>
    rw [List.flatten_cons, List.length_append]
    rcases List.mem_cons.1 h with rfl | h
    · omega
    · have := ih h; omega
theorem FWf.listLe {st : FSt} (w : FWf st) {k : Nat} {l : List Int} (h : st.lists[k]? = some l) : l.length ≤ 4096 := by
  have := w.freeLe
  have := len_flat_le (List.mem_of_getElem? h)
  unfold FSt.freeN at *
  omega
structure FX where
  V : LV
  l : List Int
def FX.T (r : FX) : Thing := Thing.vec intE r.V r.l
def frC (m : Nat) (first : Int) (harts : Nat) (CV : LV) (Ls : List LV) (CC : LV) : List LV := [.ptr m 0, i first, i harts, CV] ++ (Ls ++ [CC])
def FrG (x m a : Nat) (cs : List LV) (CV : LV) (counts : List Int) (CC : LV) (common : List Int) (bs : List Int) (rs : List FX) : List Thing :=
  [Thing.cells x cs, Thing.vec intE CV counts, Thing.vec intE CC common, Thing.cells m [.slice a 0 bs.length (.ex bs.length)], Thing.cells a (bs.map B8)] ++ rs.map FX.T
def FD (x m : Nat) (st : FSt) (Ts : List Thing) : Prop :=
  ∃ a CV CC rs, Ts = FrG x m a (frC m st.first st.harts CV (rs.map (·.V)) CC) CV st.counts CC st.common st.bs rs ∧ rs.map (·.l) = st.lists ∧ FWf st
abbrev FBox (x m : Nat) (S : Nat → Prop) (st : FSt) : Thing := Thing.box (FD x m) S st
section
variable {F : Nat → Prop} {g h h' : LHeap} {x m a k : Nat} {cs : List LV} {CV CC : LV} {counts common bs : List Int} {rs : List FX} {r : FX} {Zs : List Thing} {st : FSt} {S : Nat → Prop} {first : Int} {harts : Nat} {Ls : List LV} {V : LV}
theorem fr_at (hk : rs[k]? = some r) : (FrG x m a cs CV counts CC common bs rs ++ Zs)[5 + k]? = some (Thing.vec intE r.V r.l) := by
  have hl := (List.getElem?_eq_some_iff.1 hk).1
  unfold FrG
  rw [List.getElem?_append_left (by simp; omega), List.getElem?_append_right (by simp)]
  simp [hk, FX.T]
theorem fr_set (hk : k < rs.length) (V : LV) (l : List Int) : (FrG x m a cs CV counts CC common bs rs ++ Zs).set (5 + k) (Thing.vec intE V l) = FrG x m a cs CV counts CC common bs (rs.set k ⟨V, l⟩) ++ Zs := by
  unfold FrG
  rw [List.set_append_left _ _ (by simp; omega), List.set_append_right _ _ (by simp), List.map_set]
  congr 2
  simp [FX.T]
theorem frC_len : (frC m first harts CV Ls CC).length = 5 + Ls.length := by simp [frC]; omega
theorem frC_at (hk : Ls[k]? = some V) : (frC m first harts CV Ls CC)[4 + k]? = some V := by
  have hl := (List.getElem?_eq_some_iff.1 hk).1
  unfold frC
  rw [List.getElem?_append_right (by simp), List.getElem?_append_left (by simp; omega)]
  simpa using hk
theorem frC_set (hk : k < Ls.length) (V : LV) : (frC m first harts CV Ls CC).set (4 + k) V = frC m first harts CV (Ls.set k V) CC := by
  unfold frC
  rw [List.set_append_right _ _ (by simp), List.set_append_left _ _ (by simp; omega)]
  congr 2
  simp
theorem frC_c (h8 : Ls.length = 8) : (frC m first harts CV Ls CC)[12]? = some CC := by
  unfold frC
  rw [List.getElem?_append_right (by simp), List.getElem?_append_right (by simp; omega)]
  simp [h8]
theorem frC_setc (h8 : Ls.length = 8) (V : LV) : (frC m first harts CV Ls CC).set 12 V = frC m first harts CV Ls V := by
  unfold frC
  rw [List.set_append_right _ _ (by simp), List.set_append_right _ _ (by simp; omega)]
  simp [h8]
theorem fr_st (x0 : h.get x = some (.cells cs .ex)) (hk : k < cs.length) (cV : V.cell = true) : storeV 1 (.ptr x k) V h = some (h.set x (.cells (cs.set k V) .ex)) := by
  rw [store_o _ _ _ cV, x0, set_o, List.getElem?_eq_getElem hk]
  rfl
/-- The struct's words. -/
structure FC (h : LHeap) (x m : Nat) (first : Int) (harts : Nat) (CV CC : LV) : Prop where
  c0 : cellO none 0 (h.get x) = some (.ptr m 0)
  c1 : cellO none 1 (h.get x) = some (.int .i64 first)
  c2 : cellO none 2 (h.get x) = some (.int .i64 harts)
  c3 : cellO none 3 (h.get x) = some CV
  c12 : cellO none 12 (h.get x) = some CC
theorem FC.of (x0 : h.get x = some (.cells (frC m first harts CV Ls CC) .ex)) (h8 : Ls.length = 8) : FC h x m first harts CV CC := by
  refine ⟨?_, ?_, ?_, ?_, ?_⟩ <;> rw [x0, cell_o]
  · rfl
  · rfl
  · rfl
  · rfl
  · exact frC_c h8
theorem FC.list (x0 : h.get x = some (.cells (frC m first harts CV Ls CC) .ex)) (hk : Ls[k]? = some V) : cellO none (4 + k) (h.get x) = some V := by
  rw [x0, cell_o]; exact frC_at hk
theorem ix8 (hk : k < 8) : ixAddrL (some 8) 1 (.ptr x 4) (.int .i64 (k : Int)) = some (.ptr x (4 + k)) := by
  rw [ix_arr' _ _ hk, Nat.mul_one]
theorem fp_t : Try.prog.underlying 30 = some (.pointer 72) := by kernel_rfl
theorem made_ok (c : FC h x m first harts CV CC) : Ok Try.prog 37 [.ptr x 0] h fun v h' => v = .bool true ∧ h' = h := by
  refine ok37 fun _ _ => ?_
  have c0 := c.c0
  simp (disch := omega) only [F37, sh, sh2, nil_p fp_t true, nil_p ph_tp true, c0]
  exact ⟨trivial, trivial⟩
theorem isH_ok (c : FC h x m first harts CV CC) (k : Int) : Ok Try.prog 38 [.ptr x 0, i k] h fun v h' => v = .bool (decide (0 ≤ k ∧ k < harts)) ∧ h' = h := by
  refine ok38 fun _ _ => ?_
  have c2 := c.c2
  by_cases h0 : 0 ≤ k
  · simp (disch := omega) only [F38, i, sh, sh2, shi, dec, c2]
    exact ⟨by simp [h0], trivial⟩
  · simp (disch := omega) only [F38, i, sh, sh2, shi, dec, c2]
    exact ⟨by simp [h0], trivial⟩
def cntF (first : Int) (counts : List Int) (y : Int) : Int := if first ≤ y ∧ y < first + counts.length then (counts[(y - first).toNat]?).getD 0 else 0
theorem cnt_eq (st : FSt) (y : Int) : st.cnt y = cntF st.first st.counts y := rfl
theorem at_ix (R : Row h V intE counts) {j : Nat} (hj : j < counts.length) (c : Int) (hc : counts[j]? = some c) : ∃ a off, ixAddrL none 1 V (.int .i64 (j : Int)) = some (.ptr a off) ∧ cellO none off (h.get a) = some (.int .i64 c) := by
  obtain ⟨a, off, e, hf⟩ := R.fl hc
  have := R.ix (k := .i64) hj
  exact ⟨a, off, by rw [← e]; exact this, hf 0 _ rfl⟩
theorem count_ok (c : FC h x m first harts CV CC) (R : Row h CV intE counts) (hf : 0 ≤ first) (hf2 : first ≤ 4096) (hn : counts.length ≤ 4096) (y : Int) (y0 : -9223372036854775808 ≤ y) (y1 : y < 9223372036854775808) : Ok Try.prog 52 [.ptr x 0, i y] h fun v h' => v = i (cntF first counts y) ∧ h' = h := by
  refine ok52 fun _ _ => ?_
  simp (disch := omega) only [F52, J52_0]
  refine ⟨?_, trivial⟩
  refine (made_ok c).mono ?_
  rintro _ h ⟨rfl, rfl⟩
  have c1 := c.c1
  have c3 := c.c3
  have hl := R.len (P := Try.prog) ty50
  by_cases h1 : y < first
  · simp (disch := omega) only [i, sh, sh2, shi, dec, c1, c3, hl]
    exact ⟨by unfold cntF; rw [if_neg (by omega)], trivial⟩
  · by_cases h2 : (counts.length : Int) ≤ y - first
    · simp (disch := omega) only [i, sh, sh2, shi, dec, c1, c3, hl]
      exact ⟨by unfold cntF; rw [if_neg (by omega)], trivial⟩
    · obtain ⟨j, hj⟩ : ∃ j : Nat, y - first = j := ⟨(y - first).toNat, by omega⟩
      have hjl : j < counts.length := by omega
      obtain ⟨b, off, hix, hld⟩ := at_ix R hjl _ (List.getElem?_eq_getElem hjl)
      simp (disch := omega) only [i, sh, sh2, shi, dec, c1, c3, hl, J52_1, hj, hix, hld]
      exact ⟨by unfold cntF; rw [if_pos (by omega), hj, Int.toNat_natCast, List.getElem?_eq_getElem hjl]; rfl, trivial⟩
end
end Go.Proofs.Ytfbagndfifibiaa

namespace Go.Proofs.Ytfbagndfifibiaa
open Go.ChangeShapes Go.WideShapes Go.ChangeAt Go.RowKit Go.Lm
set_option linter.unusedSimpArgs false
set_option maxRecDepth 10000
section
variable {F : Nat → Prop} {g h h' : LHeap} {x m a k : Nat} {cs : List LV} {CV CC : LV} {counts common bs : List Int} {rs : List FX} {r : FX} {Zs : List Thing} {st : FSt} {S : Nat → Prop} {first : Int} {harts : Nat} {Ls : List LV} {V : LV}
/-- The frames' things, whole. -/
abbrev FrT (x m a : Nat) (first : Int) (harts : Nat) (CV : LV) (counts : List Int) (CC : LV) (common bs : List Int) (rs : List FX) : List Thing :=
  FrG x m a (frC m first harts CV (rs.map (·.V)) CC) CV counts CC common bs rs
theorem fr_x (Sp : Sep F g h (FrG x m a cs CV counts CC common bs rs ++ Zs)) : h.get x = some (.cells cs .ex) := Sp.cell 0 rfl
theorem fr_cv (Sp : Sep F g h (FrG x m a cs CV counts CC common bs rs ++ Zs)) : Row h CV intE counts := Sp.row 1 rfl
theorem fr_cc (Sp : Sep F g h (FrG x m a cs CV counts CC common bs rs ++ Zs)) : Row h CC intE common := Sp.row 2 rfl
theorem fr_m (Sp : Sep F g h (FrG x m a cs CV counts CC common bs rs ++ Zs)) (b1 : bs.length ≤ 1048576) (b2 : 256 ≤ bs.length) (b3 : bs.length % 256 = 0) : MemAt h m a bs := ⟨Sp.cell 3 rfl, Sp.cell 4 rfl, b1, b2, b3⟩
theorem fr_row (Sp : Sep F g h (FrG x m a cs CV counts CC common bs rs ++ Zs)) (hk : rs[k]? = some r) : Row h r.V intE r.l := Sp.row _ (fr_at hk)
theorem fr_fc (Sp : Sep F g h (FrT x m a first harts CV counts CC common bs rs ++ Zs)) (h8 : rs.length = 8) : FC h x m first harts CV CC := FC.of (fr_x Sp) (by simp [h8])
def lensL (rs : List FX) : Nat := (rs.map fun r => r.l.length).sum
theorem lensL_eq (rs : List FX) : lensL rs = (rs.map (·.l)).flatten.length := by
  unfold lensL
  rw [List.length_flatten, List.map_map]
  rfl
theorem lens_take {rs : List FX} {r : FX} (hk : rs[k]? = some r) : lensL (rs.take (k + 1)) = lensL (rs.take k) + r.l.length := by
  obtain ⟨hl, rfl⟩ := List.getElem?_eq_some_iff.1 hk
  unfold lensL
  rw [List.take_succ, List.getElem?_eq_getElem hl]
  simp only [Option.toList_some, List.map_append, List.map_cons, List.map_nil, List.sum_append, List.sum_cons, List.sum_nil]
  omega
theorem lens_le (rs : List FX) (k : Nat) : lensL (rs.take k) ≤ lensL rs := by
  conv => rhs; rw [← List.take_append_drop k rs]
  unfold lensL
  rw [List.map_append, List.sum_append]
  omega
theorem ix60 (vs : List LV) (k : Nat) (hk : k < 8) : indexT Try.prog 70 (.agg vs) (.int .i64 (k : Int)) = vs[k]? := by
  have e : indexT Try.prog 70 (.agg vs) (.int .i64 (k : Int)) = if 0 ≤ (k : Int) ∧ (k : Int) < (8 : Nat) then vs[(k : Int).toNat * 1]? else none := nr (by kernel_rfl)
  rw [e, if_pos ⟨by omega, by omega⟩, Nat.mul_one, Int.toNat_natCast]
theorem free_ok (Sp : Sep F g h (FrT x m a first harts CV counts CC common bs rs ++ Zs)) (h8 : rs.length = 8) (hb : common.length + lensL rs ≤ 4096) : Ok Try.prog 39 [.ptr x 0] h fun v h' => v = i ((common.length + lensL rs : Nat) : Int) ∧ h' = h := by
  refine ok39 fun _ _ => ?_
  simp (disch := omega) only [F39, J39_0]
  have c := fr_fc Sp h8
  refine (made_ok c).mono ?_
  rintro _ h ⟨rfl, rfl⟩
  have c12 := c.c12
  have hl := (fr_cc Sp).len (P := Try.prog) ty50
  have x0 := fr_x Sp
  have hag : cellO (some 8) 4 (h.get x) = some (.agg (rs.map (·.V))) := by
    rw [x0, cells_o _ _ _ _ (by rw [frC_len]; simp; omega)]
    have e : (List.drop 4 (frC m first harts CV (rs.map (·.V)) CC)) = rs.map (·.V) ++ [CC] := rfl
    rw [e, List.take_append_of_le_length (by simp; omega), List.take_of_length_le (by simp; omega)]
  simp (disch := omega) only [J39_1, J39_2, J39_4, i, sh, sh2, shi, dec, c12, b_len, hl, hag]
  refine loop_n (fun n s h' => ∃ k : Nat, s = (.int .i64 ((common.length + lensL (rs.take k) : Nat) : Int), .int .i64 (k : Int)) ∧ k + n = 8 ∧ h' = h) (n := 8) ⟨0, ?_, rfl, rfl⟩ ?_
  · simp [lensL]
  rintro n s h1 ⟨k, rfl, hk, rfl⟩
  cases n with
  | zero =>
    obtain rfl : k = 8 := by omega
    simp (disch := omega) only [L39_5, J39_3, i, sh, sh2, shi, dec]
    rw [List.take_of_length_le (by omega)]
    exact ⟨rfl, trivial⟩
  | succ n =>
    have hkr : rs[k]? = some rs[k] := List.getElem?_eq_getElem (by omega)
    have hle := lens_le rs (k + 1)
    rw [lens_take hkr] at hle
    have hix : indexT Try.prog 70 (.agg (rs.map (·.V))) (.int .i64 (k : Int)) = some rs[k].V := by
      rw [ix60 _ k (by omega), List.getElem?_map, hkr]; rfl
    have hl2 := (fr_row Sp hkr).len (P := Try.prog) ty50
    simp (disch := omega) only [L39_5, i, sh, sh2, shi, dec, hix, b_len, hl2]
    refine ⟨n, by omega, k + 1, ?_, by omega, trivial⟩
    rw [lens_take hkr]
    simp only [Prod.mk.injEq, LV.int.injEq, true_and]
    exact ⟨by omega, by omega⟩
end
end Go.Proofs.Ytfbagndfifibiaa

namespace Go.Proofs.Ytfbagndfifibiaa
open Go.ChangeShapes Go.WideShapes Go.ChangeAt Go.RowKit Go.Lm
set_option linter.unusedSimpArgs false
set_option maxRecDepth 10000
theorem sz3 : sizeL Try.prog 3 = some 1 := by kernel_rfl
section
variable {F : Nat → Prop} {g h h' : LHeap} {x m a k : Nat} {cs : List LV} {CV CC : LV} {counts common bs : List Int} {rs : List FX} {r : FX} {Zs : List Thing} {st : FSt} {S : Nat → Prop} {first : Int} {harts : Nat} {Ls : List LV} {V U : LV} {l l2 : List Int}
theorem fr_app (Sp : Sep F g h (FrG x m a cs CV counts CC common bs rs ++ Zs)) (hk : rs[k]? = some r) (R : Row h U intE l2) (hb : r.l.length + l2.length ≤ 2 ^ 32) :
    ∃ V' h', builtinL Try.prog .append [22, 22] [r.V, U] h = some (V', h') ∧ Sep F g h' (FrG x m a cs CV counts CC common bs (rs.set k ⟨V', r.l ++ l2⟩) ++ Zs) ∧ V'.cell = true := by
  obtain ⟨V', h', e, S', c, _⟩ := Sp.app (5 + k) (fr_at hk) (bytes := 8) R (by omega)
  rw [fr_set (List.getElem?_eq_some_iff.1 hk).1] at S'
  exact ⟨V', h', (ap50 R.not_str h).trans e, S', c⟩
theorem fr_appc (Sp : Sep F g h (FrG x m a cs CV counts CC common bs rs ++ Zs)) (R : Row h U intE l2) (hb : common.length + l2.length ≤ 2 ^ 32) :
    ∃ V' h', builtinL Try.prog .append [22, 22] [CC, U] h = some (V', h') ∧ Sep F g h' (FrG x m a cs CV counts V' (common ++ l2) bs rs ++ Zs) ∧ V'.cell = true := by
  obtain ⟨V', h', e, S', c, _⟩ := Sp.app (E := intE) (V := CC) (l := common) 2 rfl (bytes := 8) R (by omega)
  exact ⟨V', h', (ap50 R.not_str h).trans e, S', c⟩
theorem fr_stk (Sp : Sep F g h (FrG x m a (frC m first harts CV Ls U) CV counts CC common bs rs ++ Zs)) (h8 : Ls.length = 8) (hk : k < 8) (c : V.cell = true) :
    ∃ h', storeV 1 (.ptr x (4 + k)) V h = some h' ∧ Sep F g h' (FrG x m a (frC m first harts CV (Ls.set k V) U) CV counts CC common bs rs ++ Zs) := by
  have e := fr_st (h := h) (fr_x Sp) (k := 4 + k) (by rw [frC_len]; omega) c
  rw [frC_set (by omega)] at e
  exact ⟨_, e, Sp.store 0 rfl _⟩
theorem fr_stc (Sp : Sep F g h (FrG x m a (frC m first harts CV Ls U) CV counts CC common bs rs ++ Zs)) (h8 : Ls.length = 8) (c : V.cell = true) :
    ∃ h', storeV 1 (.ptr x 12) V h = some h' ∧ Sep F g h' (FrG x m a (frC m first harts CV Ls V) CV counts CC common bs rs ++ Zs) := by
  have e := fr_st (h := h) (fr_x Sp) (k := 12) (by rw [frC_len]; omega) c
  rw [frC_setc h8] at e
  exact ⟨_, e, Sp.store 0 rfl _⟩
theorem fr_newk (Sp : Sep F g h (FrG x m a cs CV counts CC common bs rs ++ Zs)) (hk : rs[k]? = some r) (O : Vec intE h.next h' V l) (mi : Mine h' V) (f : Fr noF h h') : Sep F g h' (FrG x m a cs CV counts CC common bs (rs.set k ⟨V, l⟩) ++ Zs) := by
  have S' := (Sp.vec V O.row O.grow mi f O.lo).move (fr_at hk)
  rw [fr_set (List.getElem?_eq_some_iff.1 hk).1] at S'
  exact S'
theorem fr_newc (Sp : Sep F g h (FrG x m a cs CV counts CC common bs rs ++ Zs)) (O : Vec intE h.next h' V l) (mi : Mine h' V) (f : Fr noF h h') : Sep F g h' (FrG x m a cs CV counts V l bs rs ++ Zs) :=
  (Sp.vec V O.row O.grow mi f O.lo).move (i := 2) rfl
theorem fr_grow (Sp : Sep F g h (FrG x m a cs CV counts CC common bs rs ++ Zs)) (hk : rs[k]? = some r) : Grow h r.V intE.e := Sp.grow _ (fr_at hk)
theorem fr_growc (Sp : Sep F g h (FrG x m a cs CV counts CC common bs rs ++ Zs)) : Grow h CC intE.e := Sp.grow (l := common) 2 rfl
theorem b_min8 (n : Nat) (g : LHeap) : builtinL Try.prog .min [3, 3] [.int .i64 (n : Int), .int .i64 8] g = some (.int .i64 ((min n 8 : Nat) : Int), g) := by
  have e : builtinL Try.prog .min [3, 3] [.int .i64 (n : Int), .int .i64 8] g = some (.int .i64 (if (8 : Int) < n then 8 else n), g) := nr rfl
  rw [e]
  congr 3
  split <;> omega
/-- l[:j], l[j:]. -/
theorem cut_hi (R : Row h V intE l) (G : Grow h V intE.e) {j : Nat} (hj : j ≤ l.length) : ∃ U, cutT Try.prog 22 V none (some (.int .i64 (j : Int))) none (limL V h) = some U ∧ Row h U intE (l.take j) := by
  obtain ⟨U, e, R', _⟩ := R.cut G.capd (i := 0) (j := j) (by omega) hj none (some j) rfl rfl
  exact ⟨U, (((cut_t ty50 sz3 (by decide) _ _).1 _ _).trans e), by simpa using R'⟩
theorem cut_lo (R : Row h V intE l) (G : Grow h V intE.e) {j : Nat} (hj : j ≤ l.length) : ∃ U, cutT Try.prog 22 V (some (.int .i64 (j : Int))) none none (limL V h) = some U ∧ Row h U intE (l.drop j) := by
  obtain ⟨U, e, R', _⟩ := R.cut G.capd (i := j) (j := l.length) hj (Nat.le_refl _) (some j) none rfl rfl
  refine ⟨U, (((cut_t ty50 sz3 (by decide) _ _).2.1 _ _).trans e), ?_⟩
  rw [List.take_of_length_le (by rw [List.length_drop]; omega)] at R'
  exact R'
/-- The first of the longest. -/
def rich (ls : List (List Int)) : Nat → Nat
  | 0 => 0
  | n + 1 => if ((ls[rich ls n]?).getD []).length < ((ls[n]?).getD []).length then n else rich ls n
theorem rich_le (ls : List (List Int)) : ∀ n, rich ls n ≤ n
  | 0 => Nat.le_refl _
  | n + 1 => by have := rich_le ls n; simp only [rich]; split <;> omega
theorem rich_lt (ls : List (List Int)) {n : Nat} (hn : 1 ≤ n) : rich ls n < n := by
  cases n with
  | zero => omega
  | succ n => have := rich_le ls n; simp only [rich]; split <;> omega
theorem rich_max (ls : List (List Int)) : ∀ n k, k < n → ((ls[k]?).getD []).length ≤ ((ls[rich ls n]?).getD []).length
  | 0, k, h => by omega
  | n + 1, k, h => by
    simp only [rich]
    by_cases hk : k = n
    · subst hk; split <;> omega
    · have := rich_max ls n k (by omega)
      split <;> omega
/-- What fill makes of the lists and of the common ones. -/
def fillL (ls : List (List Int)) (harts k : Nat) (common : List Int) : List (List Int) × List Int :=
  if common = [] then
    let l := (ls[rich ls harts]?).getD []
    ((ls.set k (l.take ((l.length + 1) / 2))).set (rich ls harts) (l.drop ((l.length + 1) / 2)), [])
  else (ls.set k (common.take 8), common.drop 8)
theorem fill_ok (Sp : Sep F g h (FrT x m a first harts CV counts CC common bs rs ++ Zs)) (h8 : rs.length = 8) (hh : harts ≤ 8) (hb : common.length + lensL rs ≤ 4096) (hk : rs[k]? = some r) (hr : r.l = []) (hkh : k < harts) (hfree : common = [] → ((((rs.map (·.l))[rich (rs.map (·.l)) harts]?).getD []) : List Int) ≠ []) :
    Ok Try.prog 40 [.ptr x 0, i k] h fun _ h' => ∃ CC' rs', Sep F g h' (FrT x m a first harts CV counts CC' (fillL (rs.map (·.l)) harts k common).2 bs rs' ++ Zs) ∧ rs'.map (·.l) = (fillL (rs.map (·.l)) harts k common).1 := by
  refine ok40 fun _ _ => ?_
  have c := fr_fc Sp h8
  have c12 := c.c12
  have hl := (fr_cc Sp).len (P := Try.prog) ty50
  have hmin := b_min8 common.length h
  have kl := (List.getElem?_eq_some_iff.1 hk).1
  have hix := ix8 (x := x) (k := k) (by omega)
  have hVk : (rs.map (·.V))[k]? = some r.V := by rw [List.getElem?_map, hk]; rfl
  have h8V : (rs.map (·.V)).length = 8 := by simp [h8]
  have hld := FC.list (fr_x Sp) hVk
  by_cases hc : common = []
  · subst hc
    have hfr := hfree rfl
    have hmin0 : builtinL Try.prog .min [3, 3] [.int .i64 ((0 : Nat) : Int), .int .i64 8] h = some (.int .i64 0, h) := b_min8 0 h
    have hlt := rich_lt (rs.map (·.l)) (n := harts) (by omega)
    simp (disch := omega) only [F40, i, sh, sh2, shi, dec, c12, b_len, hl, hmin0, List.length_nil]
    have c2 := c.c2
    simp (disch := omega) only [J40_0, J40_1, J40_3, i, sh, sh2, shi, dec, c2]
    have lat : ∀ j : Nat, j < 8 → ∃ r2, rs[j]? = some r2 ∧ ixAddrL (some 8) 1 (.ptr x 4) (.int .i64 (j : Int)) = some (.ptr x (4 + j)) ∧ cellO none (4 + j) (h.get x) = some r2.V ∧ lenL Try.prog 22 r2.V h = some (.int .i64 (r2.l.length : Int)) ∧ ((rs.map (·.l))[j]?).getD [] = r2.l := fun j hj => by
      have hj' : rs[j]? = some rs[j] := List.getElem?_eq_getElem (by omega)
      refine ⟨rs[j], hj', ix8 hj, FC.list (fr_x Sp) (by rw [List.getElem?_map, hj']; rfl), (fr_row Sp hj').len (P := Try.prog) ty50 h, by rw [List.getElem?_map, hj']; rfl⟩
    refine loop_n (fun n (s : LV × LV) h' => ∃ j : Nat, s = (LV.int .i64 (rich (rs.map (·.l)) j : Int), LV.int .i64 (j : Int)) ∧ j + n = harts ∧ h' = h) (n := harts) ⟨0, rfl, by omega, rfl⟩ ?_
    rintro n s h' ⟨j, rfl, hj, rfl⟩
    cases n with
    | succ n =>
      have hle := rich_le (rs.map (·.l)) j
      obtain ⟨r2, hr2, ix2, ld2, len2, g2⟩ := lat j (by omega)
      obtain ⟨r3, hr3, ix3, ld3, len3, g3⟩ := lat (rich (rs.map (·.l)) j) (by omega)
      by_cases hlen : r3.l.length < r2.l.length
      · simp (disch := omega) only [L40_4, i, sh, sh2, shi, dec, ix2, ld2, len2, ix3, ld3, len3]
        refine ⟨n, by omega, j + 1, ?_, by omega, trivial⟩
        simp only [rich, g2, g3, if_pos hlen]
        congr 2
      · simp (disch := omega) only [L40_4, i, sh, sh2, shi, dec, ix2, ld2, len2, ix3, ld3, len3]
        refine ⟨n, by omega, j + 1, ?_, by omega, trivial⟩
        simp only [rich, g2, g3, if_neg hlen]
        congr 2
    | zero =>
      obtain rfl : j = harts := by omega
      obtain ⟨r3, hr3, ix3, ld3, len3, g3⟩ := lat (rich (rs.map (·.l)) j) (by omega)
      rw [g3] at hfr
      have hne : k ≠ rich (rs.map (·.l)) j := fun e => by
        rw [← e, hk] at hr3
        cases hr3
        exact hfr hr
      have p3 : 0 < r3.l.length := List.length_pos_iff.2 hfr
      have le3 := lens_le rs (rich (rs.map (·.l)) j + 1)
      rw [lens_take hr3] at le3
      obtain ⟨w, hw⟩ : ∃ w : Nat, w = (r3.l.length + 1) / 2 := ⟨_, rfl⟩
      have hq : binL Try.prog .quo 3 true (.int .i64 ((r3.l.length : Int) + 1)) (.int .i64 2) = some (.int .i64 (w : Int)) := by
        rw [binL_quo_int _ _ _ _ _ (by decide), Int.tdiv_eq_ediv_of_nonneg (by omega), wrap_in (by omega) (by omega)]
        congr 2
        omega
      obtain ⟨U, hcut, RU⟩ := cut_hi (fr_row Sp hr3) (fr_grow Sp hr3) (j := w) (by omega)
      obtain ⟨V1, h1, happ, S1, cV1⟩ := fr_app Sp hk RU (by rw [hr, List.length_take]; simp; omega)
      obtain ⟨h2, hst, S2⟩ := fr_stk S1 h8V (k := k) (V := V1) (by omega) cV1
      have hr3' : (rs.set k ⟨V1, r.l ++ r3.l.take w⟩)[rich (rs.map (·.l)) j]? = some r3 := by rw [List.getElem?_set_ne hne]; exact hr3
      have ld4 := FC.list (fr_x S2) (k := rich (rs.map (·.l)) j) (V := r3.V) (by rw [List.getElem?_set_ne hne, List.getElem?_map, hr3]; rfl)
      obtain ⟨U2, hcut2, RU2⟩ := cut_lo (fr_row S2 hr3') (fr_grow S2 hr3') (j := w) (by omega)
      simp (disch := omega) only [L40_4, J40_2, i, sh, sh2, shi, dec, ix3, ld3, b_len, len3, hq, hix, hld, hcut, happ, hst, ld4, hcut2]
      refine ⟨⟨⟨?_, trivial⟩, trivial⟩, trivial⟩
      refine (clone64_ok RU2 (by rw [List.length_drop]; omega)).mono ?_
      rintro V3 h3 ⟨O, mi, f⟩
      have S3 := fr_newk S2 hr3' O mi f
      obtain ⟨h4, hst3, S4⟩ := fr_stk S3 (by simp [h8]) (k := rich (rs.map (·.l)) j) (V := V3) (by omega) O.row.cell
      simp (disch := omega) only [i, sh, sh2, ix3, hst3]
      refine ⟨⟨CC, (rs.set k ⟨V1, r.l ++ r3.l.take w⟩).set (rich (rs.map (·.l)) j) ⟨V3, r3.l.drop w⟩, ?_, ?_⟩, trivial⟩
      · unfold FrT fillL
        rw [List.map_set, List.map_set]
        exact S4
      · unfold fillL
        rw [if_pos rfl, List.map_set, List.map_set, hr, List.nil_append]
        simp only [g3, ← hw]
  · have h0 : 0 < common.length := List.length_pos_iff.2 hc
    obtain ⟨U, hcut, RU⟩ := cut_hi (fr_cc Sp) (fr_growc Sp) (j := min common.length 8) (by omega)
    obtain ⟨V1, h1, happ, S1, cV1⟩ := fr_app Sp hk RU (by rw [hr, List.length_take]; simp; omega)
    obtain ⟨h2, hst, S2⟩ := fr_stk S1 h8V (k := k) (V := V1) (by omega) cV1
    have c2 := FC.of (fr_x S2) (by simp [h8])
    have c212 := c2.c12
    obtain ⟨U2, hcut2, RU2⟩ := cut_lo (fr_cc S2) (fr_growc S2) (j := min common.length 8) (by omega)
    simp (disch := omega) only [F40, i, sh, sh2, shi, dec, c12, b_len, hl, hmin, hix, hld, hcut, happ, hst, c212, hcut2]
    refine ⟨⟨?_, trivial⟩, trivial⟩
    refine (clone64_ok RU2 (by rw [List.length_drop]; omega)).mono ?_
    rintro V3 h3 ⟨O, mi, f⟩
    have S3 := fr_newc S2 O mi f
    obtain ⟨h4, hst3, S4⟩ := fr_stc S3 (by simp [h8]) (V := V3) O.row.cell
    simp (disch := omega) only [i, sh, sh2, hst3]
    have e : min common.length 8 = 8 ∨ min common.length 8 = common.length := by omega
    refine ⟨V3, rs.set k ⟨V1, r.l ++ common.take (min common.length 8)⟩, ?_, ?_⟩
    · have e2 : (fillL (rs.map (·.l)) harts k common).2 = common.drop (min common.length 8) := by
        unfold fillL
        rw [if_neg hc]
        rcases Nat.le_total common.length 8 with h | h
        · rw [Nat.min_eq_left h, List.drop_of_length_le (Nat.le_refl _)]
          exact List.drop_of_length_le h
        · rw [Nat.min_eq_right h]
      rw [e2]
      unfold FrT
      rw [List.map_set]
      exact S4
    · unfold fillL
      rw [if_neg hc, List.map_set, hr, List.nil_append]
      congr 1
      rcases Nat.le_total common.length 8 with h | h
      · rw [Nat.min_eq_left h, List.take_length, List.take_of_length_le h]
      · rw [Nat.min_eq_right h]
end
end Go.Proofs.Ytfbagndfifibiaa

namespace Go.Proofs.Ytfbagndfifibiaa
open Go.ChangeShapes Go.WideShapes Go.ChangeAt Go.RowKit Go.Lm
set_option linter.unusedSimpArgs false
set_option maxRecDepth 10000
theorem count_set {y : Int} : ∀ {ls : List (List Int)} {k : Nat} {l : List Int} (l' : List Int), ls[k]? = some l → (ls.set k l').flatten.count y + l.count y = ls.flatten.count y + l'.count y
  | [], _, _, _, h => by simp at h
  | l0 :: ls, 0, l, l', h => by
    obtain rfl : l0 = l := by simpa using h
    simp only [List.set_cons_zero, List.flatten_cons, List.count_append]; omega
  | l0 :: ls, k + 1, l, l', h => by
    have := count_set (ls := ls) (k := k) l' (by simpa using h) (y := y)
    simp only [List.set_cons_succ, List.flatten_cons, List.count_append]; omega
theorem len_set : ∀ {ls : List (List Int)} {k : Nat} {l : List Int} (l' : List Int), ls[k]? = some l → (ls.set k l').flatten.length + l.length = ls.flatten.length + l'.length
  | [], _, _, _, h => by simp at h
  | l0 :: ls, 0, l, l', h => by
    obtain rfl : l0 = l := by simpa using h
    simp only [List.set_cons_zero, List.flatten_cons, List.length_append]; omega
  | l0 :: ls, k + 1, l, l', h => by
    have := len_set (ls := ls) (k := k) l' (by simpa using h)
    simp only [List.set_cons_succ, List.flatten_cons, List.length_append]; omega
theorem count_td (y : Int) (l : List Int) (n : Nat) : (l.take n).count y + (l.drop n).count y = l.count y := by
  conv => rhs; rw [← List.take_append_drop n l]
  rw [List.count_append]
theorem used_set : ∀ {l : List Int} {j : Nat} {c : Int} (c' : Int), l[j]? = some c → usedL (l.set j c') + (if 0 < c then 1 else 0) = usedL l + (if 0 < c' then 1 else 0)
  | [], _, _, _, h => by simp at h
  | c0 :: l, 0, c, c', h => by
    obtain rfl : c0 = c := by simpa using h
    simp only [List.set_cons_zero, usedL, List.filter_cons]
    by_cases h1 : 0 < c0 <;> by_cases h2 : 0 < c' <;> simp [h1, h2]
  | c0 :: l, j + 1, c, c', h => by
    have := used_set (l := l) (j := j) c' (by simpa using h)
    simp only [List.set_cons_succ, usedL, List.filter_cons] at *
    by_cases h1 : 0 < c0 <;> simp [h1] <;> omega
theorem frameB_len {bs : List Int} {y : Int} (h : frameIn bs y) : (frameB bs y).length = 256 := by
  have := frame_fit h
  unfold frameB
  rw [List.length_take, List.length_drop]; omega
theorem frameB_get {bs : List Int} {y : Int} {j : Nat} : (frameB bs y)[j]? = if j < 256 then bs[256 * y.toNat + j]? else none := by
  unfold frameB
  rw [List.getElem?_take]
  split
  · rw [List.getElem?_drop]
  · rfl
theorem frameB_apart {bs new : List Int} {off : Nat} {y : Int} (fit : off + new.length ≤ bs.length) (h : off + new.length ≤ 256 * y.toNat ∨ 256 * y.toNat + 256 ≤ off) : frameB (putB bs off new) y = frameB bs y := by
  apply List.ext_getElem?
  intro j
  rw [frameB_get, frameB_get]
  split
  · rw [putB_get fit, if_neg (by omega)]
  · rfl
theorem frameB_zero {bs : List Int} {y z : Int} (hy : frameIn bs y) (hz : frameIn bs z) (hne : z ≠ y) : frameB (zeroF bs y) z = frameB bs z := by
  unfold zeroF
  rw [if_pos hy]
  refine frameB_apart (by have := frame_fit hy; simpa [zerosB] using this) ?_
  have : (zerosB 256).length = 256 := by simp [zerosB]
  rw [this]
  unfold frameIn at hy hz
  omega
theorem frameB_zeroed {bs : List Int} {y : Int} (hy : frameIn bs y) : frameB (zeroF bs y) y = zerosB 256 := by
  have hl : (zerosB 256).length = 256 := by simp [zerosB]
  apply List.ext_getElem?
  intro j
  rw [frameB_get]
  unfold zeroF
  rw [if_pos hy]
  split
  · rw [putB_get (by rw [hl]; exact frame_fit hy), if_pos ⟨by omega, by omega⟩]
    congr 1; omega
  · rw [List.getElem?_eq_none (by omega)]
theorem FWf.frameIn {st : FSt} (w : FWf st) {y : Int} (h : st.inR y) : frameIn st.bs y := by
  have := w.fit; have := w.f0
  unfold FSt.inR at h
  exact ⟨by omega, by omega⟩
def fillS (st : FSt) (k : Nat) : FSt := { st with lists := (fillL st.lists st.harts k st.common).1, common := (fillL st.lists st.harts k st.common).2 }
/-- Where nothing is in the lists, nothing is free. -/
theorem rich_ne {st : FSt} (w : FWf st) (hf : st.freeN ≠ 0) (hc : st.common = []) : (((st.lists[rich st.lists st.harts]?).getD []) : List Int) ≠ [] := fun e => by
  have hm := rich_max st.lists st.harts
  rw [e] at hm
  apply hf
  unfold FSt.freeN
  rw [hc, List.length_nil, Nat.zero_add]
  have : ∀ l ∈ st.lists, l = [] := fun l hl => by
    obtain ⟨k, hk⟩ := List.getElem?_of_mem hl
    have h8 := w.l8
    have hkl := (List.getElem?_eq_some_iff.1 hk).1
    by_cases h : k < st.harts
    · have := hm k h
      rw [hk] at this
      exact List.length_eq_zero_iff.1 (by simpa using this)
    · have := w.le k (by omega) (by omega)
      rw [hk] at this
      exact Option.some.inj this
  have h2 : ∀ ls : List (List Int), (∀ l ∈ ls, l = []) → ls.flatten.length = 0 := fun ls => by
    induction ls with
    | nil => intro; rfl
    | cons a ls ih =>
      intro h
      rw [List.flatten_cons, h a (by simp), List.nil_append]
      exact ih fun l hl => h l (by simp [hl])
  exact h2 _ this
theorem getD_some {ls : List (List Int)} {k : Nat} (h : k < ls.length) : ls[k]? = some ((ls[k]?).getD []) := by
  rw [List.getElem?_eq_getElem h]; rfl
/-- What fill does. -/
theorem fill_said {st : FSt} (w : FWf st) {k : Nat} (hk : k < st.harts) (hl : st.lists[k]? = some []) (hf : st.freeN ≠ 0) :
    (∀ y, (fillS st k).all.count y = st.all.count y) ∧ (fillS st k).freeN = st.freeN ∧ (fillS st k).lists.length = 8 ∧ (∀ j : Nat, st.harts ≤ j → j < 8 → (fillS st k).lists[j]? = some []) ∧ (fillS st k).common.Pairwise (fun x y => decide (x ≤ y) = true) ∧ ∃ l, (fillS st k).lists[k]? = some l ∧ l ≠ [] := by
  have h8 := w.l8
  have hh := w.h8
  by_cases hc : st.common = []
  · have hne := rich_ne w hf hc
    have hr := rich_lt st.lists w.h1
    have hrs := getD_some (ls := st.lists) (k := rich st.lists st.harts) (by omega)
    generalize (st.lists[rich st.lists st.harts]?).getD [] = l at *
    have hkr : k ≠ rich st.lists st.harts := fun e => by rw [← e, hl] at hrs; exact hne (Option.some.inj hrs).symm
    have hlp : 0 < l.length := List.length_pos_iff.2 hne
    have e : fillS st k = { st with lists := (st.lists.set k (l.take ((l.length + 1) / 2))).set (rich st.lists st.harts) (l.drop ((l.length + 1) / 2)), common := [] } := by
      unfold fillS fillL
      rw [if_pos hc, hrs]
      rfl
    rw [e]
    have hrs' : (st.lists.set k (l.take ((l.length + 1) / 2)))[rich st.lists st.harts]? = some l := by rw [List.getElem?_set_ne hkr]; exact hrs
    refine ⟨fun y => ?_, ?_, by simp [h8], fun j hj hj8 => ?_, List.Pairwise.nil, l.take ((l.length + 1) / 2), ?_, ?_⟩
    · have c1 := count_set (y := y) (l.drop ((l.length + 1) / 2)) hrs'
      have c2 := count_set (y := y) (l.take ((l.length + 1) / 2)) hl
      have c3 := count_td y l ((l.length + 1) / 2)
      simp only [FSt.all, List.count_append, hc, List.count_nil] at *
      omega
    · have c1 := len_set (l.drop ((l.length + 1) / 2)) hrs'
      have c2 := len_set (l.take ((l.length + 1) / 2)) hl
      have c3 : (l.take ((l.length + 1) / 2)).length + (l.drop ((l.length + 1) / 2)).length = l.length := by rw [List.length_take, List.length_drop]; omega
      simp only [FSt.freeN, hc, List.length_nil] at *
      omega
    · rw [List.getElem?_set_ne (by omega), List.getElem?_set_ne (by omega)]
      exact w.le j hj hj8
    · rw [List.getElem?_set_ne (Ne.symm hkr), List.getElem?_set_self (by omega)]
    · intro e2
      have := congrArg List.length e2
      rw [List.length_take, List.length_nil] at this
      omega
  · have e : fillS st k = { st with lists := st.lists.set k (st.common.take 8), common := st.common.drop 8 } := by
      unfold fillS fillL
      rw [if_neg hc]
    rw [e]
    have hcp : 0 < st.common.length := List.length_pos_iff.2 hc
    refine ⟨fun y => ?_, ?_, by simp [h8], fun j hj hj8 => ?_, w.so.sublist (List.drop_sublist _ _), st.common.take 8, ?_, ?_⟩
    · have c2 := count_set (y := y) (st.common.take 8) hl
      have c3 := count_td y st.common 8
      simp only [FSt.all, List.count_append, List.count_nil] at *
      omega
    · have c2 := len_set (st.common.take 8) hl
      have c3 : (st.common.take 8).length + (st.common.drop 8).length = st.common.length := by rw [List.length_take, List.length_drop]; omega
      simp only [FSt.freeN, List.length_nil] at *
      omega
    · rw [List.getElem?_set_ne (by omega)]
      exact w.le j hj hj8
    · rw [List.getElem?_set_self (by omega)]
    · intro e2
      have := congrArg List.length e2
      rw [List.length_take, List.length_nil] at this
      omega
theorem fill_wf {st : FSt} (w : FWf st) {k : Nat} (hk : k < st.harts) (hl : st.lists[k]? = some []) (hf : st.freeN ≠ 0) : FWf (fillS st k) := by
  obtain ⟨h1, h2, h3, h4, h5, _⟩ := fill_said w hk hl hf
  refine ⟨w.h1, w.h8, h3, h4, w.f0, w.n1, w.b1, w.b2, w.b3, w.fit, w.cr, fun y => (h1 y).trans (w.I1 y), ?_, h5, fun y hy => w.z y ?_⟩
  · rw [h2]; exact w.I2
  · rw [← List.count_pos_iff] at *
    rw [← h1 y]; exact hy
end Go.Proofs.Ytfbagndfifibiaa
