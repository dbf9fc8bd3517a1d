/-
  phys: a memory's bytes.
-/
import Derived.Test.YtoajcekgoalhjaaFrP
import Derived.Test.YtoajcekgoalhjaaLm7x
set_option linter.all false
namespace Go.Proofs.Ytoajcekgoalhjaa
open Go.ChangeShapes Go.WideShapes Go.ChangeAt Go.RowKit Go.Lm
set_option linter.unusedSimpArgs false
set_option maxRecDepth 10000
theorem ph_tp : Try.prog.underlying 44 = some (.pointer 100) := by kernel_rfl
theorem ph_ts : Try.prog.underlying 33 = some (.slice 5) := by kernel_rfl
theorem ph_tb : Try.prog.underlying 5 = some (.int .u8) := by kernel_rfl
theorem ph_zb : zeroL Try.prog 5 = some (B8 0) := by kernel_rfl
theorem ph_sz : sizeL Try.prog 5 = some 1 := by kernel_rfl
/-- A memory: its struct at m, its bytes at a. -/
structure MemAt (h : LHeap) (m a : Nat) (bs : List Int) : Prop where
  s : h.get m = some (.cells [.slice a 0 bs.length (.ex bs.length)] .ex)
  b : h.get a = some (.cells (bs.map B8) .ex)
  le : bs.length ≤ 1048576
  pos : 256 ≤ bs.length
  mul : bs.length % 256 = 0
section
variable {g h h' : LHeap} {m a : Nat} {bs : List Int}
theorem MemAt.fr (M : MemAt g m a bs) {F : Nat → Prop} (f : Fr F g h) (hm : m < g.next) (ha : a < g.next) (h1 : ¬ F m) (h2 : ¬ F a) : MemAt h m a bs := ⟨(f.eq m hm h1).trans M.s, (f.eq a ha h2).trans M.b, M.le, M.pos, M.mul⟩
theorem ph_c (V : LV) : cellO none 0 (some (.cells [V] .ex)) = some V := rfl
theorem ph_tdiv (n : Nat) : ((n : Int).tdiv 256) = ((n / 256 : Nat) : Int) := by rw [Int.tdiv_eq_ediv_of_nonneg (by omega)]; omega
theorem Frames_ok (M : MemAt h m a bs) : Ok Try.prog 52 [.ptr m 0] h fun v h' => v = i ((bs.length / 256 : Nat) : Int) ∧ h' = h := by
  refine ok52 fun _ _ => ?_
  have x := M.s
  have le := M.le
  have hq : binL Try.prog .quo 3 true (.int .i64 (bs.length : Int)) (.int .i64 256) = some (.int .i64 ((bs.length / 256 : Nat) : Int)) := by
    rw [binL_quo_int _ _ _ _ _ (by decide), ph_tdiv, wrap_in (by omega) (by omega)]
  have hl : lenL Try.prog 33 (.slice a 0 bs.length (.ex bs.length)) h = some (.int .i64 bs.length) := by simp only [lenL, ph_ts]
  simp (disch := omega) only [F52, i, sh, sh2, nil_p ph_tp true, x, b_len, hl, hq]
  exact ⟨trivial, trivial⟩
/-- Where a span may be. -/
def spanIn (bs : List Int) (x n : Int) : Prop := 0 ≤ n ∧ 0 ≤ x ∧ x + n ≤ bs.length
instance (bs : List Int) (x n : Int) : Decidable (spanIn bs x n) := by unfold spanIn; infer_instance
theorem span_ok (M : MemAt h m a bs) (x n : Int) (hn : 0 < n) : Ok Try.prog 82 [.ptr m 0, i x, i n] h fun v h' => h' = h ∧ v = (if spanIn bs x n then .tuple [.slice a x.toNat n.toNat (.ex n.toNat), i 0] else .tuple [.nils, i 10]) := by
  refine ok82 fun _ _ => ?_
  have xm := M.s
  have le := M.le
  have hl : lenL Try.prog 33 (.slice a 0 bs.length (.ex bs.length)) h = some (.int .i64 bs.length) := by simp only [lenL, ph_ts]
  by_cases h1 : x < 0
  · simp (disch := omega) only [F82, i, sh, sh2, shi, dec, nil_p ph_tp true, xm, b_len, hl]
    exact ⟨trivial, by rw [if_neg]; unfold spanIn; omega⟩
  by_cases h2 : (bs.length : Int) < x
  · simp (disch := omega) only [F82, i, sh, sh2, shi, dec, nil_p ph_tp true, xm, b_len, hl]
    exact ⟨trivial, by rw [if_neg]; unfold spanIn; omega⟩
  by_cases h3 : (bs.length : Int) - x < n
  · simp (disch := omega) only [F82, i, sh, sh2, shi, dec, nil_p ph_tp true, xm, b_len, hl]
    exact ⟨trivial, by rw [if_neg]; unfold spanIn; omega⟩
  have hc : cutT Try.prog 33 (.slice a 0 bs.length (.ex bs.length)) (some (.int .i64 x)) (some (.int .i64 (x + n))) (some (.int .i64 (x + n))) (limL (.slice a 0 bs.length (.ex bs.length)) h) = some (.slice a x.toNat n.toNat (.ex n.toNat)) := by
    rw [(cut_t ph_ts ph_sz (by decide) _ _).2.2.2.2.2]
    have := cut3_span (n := bs.length) (a := a) (lim := limL (.slice a 0 bs.length (.ex bs.length)) h) (len := bs.length) (lo := x) (hi := x + n) (by omega) (by omega) (by omega) rfl
    rw [show (x + n - x) = n by omega] at this
    exact this
  simp (disch := omega) only [F82, i, sh, sh2, shi, dec, nil_p ph_tp true, xm, b_len, hl, hc]
  exact ⟨trivial, by rw [if_pos]; unfold spanIn; omega⟩
def frameIn (bs : List Int) (x : Int) : Prop := 0 ≤ x ∧ x < ((bs.length / 256 : Nat) : Int)
instance (bs : List Int) (x : Int) : Decidable (frameIn bs x) := by unfold frameIn; infer_instance
theorem frame_ok (M : MemAt h m a bs) (x : Int) : Ok Try.prog 81 [.ptr m 0, i x] h fun v h' => h' = h ∧ v = (if frameIn bs x then .tuple [.slice a (256 * x.toNat) 256 (.ex 256), i 0] else .tuple [.nils, i 10]) := by
  refine ok81 fun _ _ => ?_
  have le := M.le
  have np := (nil_p (P := Try.prog) ph_tp true).1
  by_cases h1 : x < 0
  · simp (disch := omega) only [F81, i, sh, sh2, shi, dec, np]
    exact ⟨trivial, by rw [if_neg]; unfold frameIn; omega⟩
  simp (disch := omega) only [F81, i, sh, sh2, shi, dec, np]
  refine (Frames_ok M).mono ?_
  rintro _ h ⟨rfl, rfl⟩
  by_cases h2 : ((bs.length / 256 : Nat) : Int) ≤ x
  · simp (disch := omega) only [i, sh, sh2, shi, dec]
    exact ⟨trivial, by rw [if_neg]; unfold frameIn; omega⟩
  have hw : IntKind.i64.wrap (x * 256) = x * 256 := wrap_in (by omega) (by omega)
  simp (disch := omega) only [i, sh, sh2, shi, dec]
  refine (span_ok M (x * 256) 256 (by omega)).mono ?_
  rintro _ h ⟨rfl, rfl⟩
  have mul := M.mul
  rw [if_pos (show spanIn bs (x * 256) 256 by unfold spanIn; omega), if_pos (show frameIn bs x by unfold frameIn; omega)]
  simp (disch := omega) only [i, sh, sh2]
  refine ⟨trivial, ?_⟩
  congr 3
  omega
theorem word_ok (M : MemAt h m a bs) (x : Int) (hx : 0 ≤ x) : Ok Try.prog 58 [.ptr m 0, i x] h fun v h' => h' = h ∧ v = (if x % 4 = 0 ∧ spanIn bs x 4 then .tuple [.slice a x.toNat 4 (.ex 4), i 0] else .tuple [.nils, i 10]) := by
  refine ok58 fun _ _ => ?_
  have np := (nil_p (P := Try.prog) ph_tp true).1
  have hr : binL Try.prog .rem 3 true (.int .i64 x) (.int .i64 4) = some (.int .i64 (x % 4)) := by
    rw [binL_rem_int _ _ _ _ _ (by decide), Int.tmod_eq_emod_of_nonneg hx]
  by_cases h1 : x % 4 = 0
  · have ef : (!(x % 4 == 0)) = false := by simp [h1]
    simp (disch := omega) only [F58, i, sh, sh2, np, hr, binL_neq_int, ef]
    refine (span_ok M x 4 (by omega)).mono ?_
    rintro _ h ⟨rfl, rfl⟩
    by_cases h2 : spanIn bs x 4
    · rw [if_pos h2, if_pos ⟨h1, h2⟩]
      simp (disch := omega) only [i, sh, sh2]
      exact ⟨trivial, rfl⟩
    · rw [if_neg h2, if_neg fun h => h2 h.2]
      simp (disch := omega) only [i, sh, sh2]
      exact ⟨trivial, trivial⟩
  · have ef : (!(x % 4 == 0)) = true := by simp [h1]
    rw [if_neg fun h => h1 h.1]
    simp (disch := omega) only [F58, i, sh, sh2, np, hr, binL_neq_int, ef]
    exact ⟨trivial, trivial⟩
def zerosB (n : Nat) : List Int := List.replicate n 0
/-- A frame's bytes become 0. -/
def zeroF (bs : List Int) (x : Int) : List Int := if frameIn bs x then putB bs (256 * x.toNat) (zerosB 256) else bs
theorem frame_fit {x : Int} (hx : frameIn bs x) : 256 * x.toNat + 256 ≤ bs.length := by
  unfold frameIn at hx; omega
theorem zeroF_len (bs : List Int) (x : Int) : (zeroF bs x).length = bs.length := by
  unfold zeroF
  split
  · rename_i hx; exact putB_len (by have := frame_fit hx; simpa [zerosB] using this)
  · rfl
theorem Zero_ok (M : MemAt h m a bs) (x : Int) : Ok Try.prog 53 [.ptr m 0, i x] h fun v h' => v = i (if frameIn bs x then 0 else 10) ∧ h' = (if frameIn bs x then h.set a (.cells ((zeroF bs x).map B8) .ex) else h) := by
  refine ok53 fun _ _ => ?_
  simp (disch := omega) only [F53, i]
  refine (frame_ok M x).mono ?_
  rintro _ h ⟨rfl, rfl⟩
  by_cases hx : frameIn bs x
  · rw [if_pos hx, if_pos hx, if_pos hx]
    have fit := frame_fit hx
    have hc := span_clear (P := Try.prog) (h := h) (off := 256 * x.toNat) (n := 256) ph_ts ph_zb M.b (.ex 256) fit
    rw [if_neg (by decide)] at hc
    have hb : builtinL Try.prog .clear [33] [.slice a (256 * x.toNat) 256 (.ex 256)] h = some (undefL, h.set a (.cells ((zeroF bs x).map B8) .ex)) := by
      simp only [builtinL, hc, Option.map_some, zeroF, if_pos hx, zerosB]
    simp (disch := omega) only [i, sh, sh2, hb]
    exact ⟨trivial, trivial⟩
  · rw [if_neg hx, if_neg hx, if_neg hx]
    have hb : builtinL Try.prog .clear [33] [.nils] h = some (undefL, h) := by simp only [builtinL, clearL, ph_ts, Option.map_some]
    simp (disch := omega) only [i, sh, sh2, hb]
    exact ⟨trivial, trivial⟩
theorem ph_bs (h : LHeap) : buildSliceL Try.prog 33 0 [] h = some (.slice h.next 0 0 (.ex 0), h.alloc (.cells [] .ex)) := nr (by kernel_rfl)
theorem ph_ap {V U : LV} (hU : U.isStr = false) (g : LHeap) : builtinL Try.prog .append [33, 33] [V, U] g = appendL 1 1 V U g := append_ok (by kernel_rfl) hU g
theorem cloneB_ok {V : LV} {l : List Int} (R : Row g V byteE l) (hb : l.length * 1 * 2 ≤ 2 ^ 48) : Ok Try.prog 46 [V] g fun v h => Vec byteE g.next h v l ∧ Mine h v ∧ Fr noF g h := by
  refine ok46 fun wf _ => ?_
  rcases R.nil_or ph_ts true with ⟨rfl, rfl⟩ | ⟨_, e1, _⟩
  · simp (disch := omega) only [F46, sh, nil_s ph_ts true]
    exact ⟨Vec.nils _ _, trivial, Fr.refl _ _⟩
  · obtain ⟨V', h', e, O, mi, f⟩ := Vec.clone (E := byteE) (bytes := 1) R wf (.inl hb)
    have e : appendL 1 1 (.slice g.next 0 0 (.ex 0)) V (g.alloc (.cells [] .ex)) = some (V', h') := e
    have hbs := ph_bs g
    have hap := ph_ap (V := .slice g.next 0 0 (.ex 0)) (g := g.alloc (.cells [] .ex)) R.not_str
    simp (disch := omega) only [F46, sh, e1, hbs, hap, e]
    exact ⟨O, mi, f⟩
def frameB (bs : List Int) (x : Int) : List Int := (bs.drop (256 * x.toNat)).take 256
theorem Frame_ok (M : MemAt h m a bs) (x : Int) : Ok Try.prog 57 [.ptr m 0, i x] h fun v h' => ∃ V, v = .tuple [V, i (if frameIn bs x then 0 else 10)] ∧ Vec byteE h.next h' V (if frameIn bs x then frameB bs x else []) ∧ Mine h' V ∧ Fr noF h h' := by
  refine ok57 fun wf _ => ?_
  simp (disch := omega) only [F57, i]
  refine (frame_ok M x).mono ?_
  rintro _ h ⟨rfl, rfl⟩
  by_cases hx : frameIn bs x
  · rw [if_pos hx, if_pos hx, if_pos hx]
    have R := span_row (off := 256 * x.toNat) (n := 256) M.b (.ex 256) (frame_fit hx)
    simp (disch := omega) only [i, sh, sh2]
    refine (cloneB_ok R (by simp; omega)).mono ?_
    rintro V h' ⟨O, mi, f⟩

    exact ⟨V, rfl, O, mi, f⟩
  · rw [if_neg hx, if_neg hx, if_neg hx]
    simp (disch := omega) only [i, sh, sh2]
    refine (cloneB_ok (l := []) (Row.nils _ _) (by simp)).mono ?_
    rintro V h' ⟨O, mi, f⟩
    exact ⟨V, rfl, O, mi, f⟩
/-! A word is stored. -/
def byteN (x : Int) (k : Nat) : Int := IntKind.u8.wrap (x.fdiv (2 ^ (8 * k)))
def wordB (x : Int) (k : Nat) : List Int := (List.range k).map (byteN x)
theorem wordB_len (x : Int) (k : Nat) : (wordB x k).length = k := by simp [wordB]
theorem ph_shr (x : Int) (n : Nat) (hn : n < 32) : binL Try.prog .shr 57 false (.int .u32 x) (.int .i64 (n : Int)) = some (.int .u32 (x.fdiv (2 ^ n))) := by
  have e : binL Try.prog .shr 57 false (.int .u32 x) (.int .i64 (n : Int)) = ofPure (Op.shift .shr .u32 x .i64 (n : Int)) := rfl
  rw [e]
  unfold Op.shift
  have e2 : min n IntKind.u32.bits = n := by show min n 32 = n; omega
  have e3 : ¬ ((n : Int) < 0) := by omega
  simp [ofPure, e2, if_neg e3]
  rfl
theorem ph_cv (y : Int) (g : LHeap) : convL Try.prog 57 5 (.int .u32 y) g = some (.int .u8 (IntKind.u8.wrap y), g) := nr (by kernel_rfl)
theorem putB_snoc {bs l : List Int} {off : Nat} {b : Int} (h : off + l.length < bs.length) : putB bs off (l ++ [b]) = (putB bs off l).set (off + l.length) b := by
  apply List.ext_getElem?
  intro j
  rw [putB_get (by simp; omega), List.getElem?_set, putB_get (by omega), putB_len (by omega)]
  by_cases h1 : off + l.length = j
  · subst h1
    rw [if_pos ⟨by omega, by simp⟩, if_pos rfl, if_pos h, List.getElem?_append_right (by omega)]
    simp
  · rw [if_neg h1]
    by_cases h2 : off ≤ j ∧ j < off + l.length
    · rw [if_pos ⟨h2.1, by simp; omega⟩, if_pos h2, List.getElem?_append_left (by omega)]
    · rw [if_neg h2, if_neg (by simp; omega)]
/-- The bytes at a became bs'; nothing else turned. -/
structure MemTo (h h' : LHeap) (a : Nat) (bs' : List Int) : Prop where
  fr : Fr (fun b => b = a) h h'
  at_ : h'.get a = some (.cells (bs'.map B8) .ex)
theorem ph_set {h : LHeap} {a : Nat} {bs : List Int} {k : Nat} (x : h.get a = some (.cells (bs.map B8) .ex)) (hk : k < bs.length) (b : Int) : storeV 1 (.ptr a k) (.int .u8 b) h = some (h.set a (.cells ((bs.set k b).map B8) .ex)) := by
  rw [store_o _ _ _ rfl, x, set_o, List.getElem?_map, List.getElem?_eq_getElem hk, List.map_set]
  rfl
theorem Store32_ok (M : MemAt h m a bs) (x : Int) (hx : 0 ≤ x) (w : Int) : Ok Try.prog 24 [.ptr m 0, i x, .int .u32 w] h fun v h' => v = i (if x % 4 = 0 ∧ spanIn bs x 4 then 0 else 10) ∧ MemTo h h' a (if x % 4 = 0 ∧ spanIn bs x 4 then putB bs x.toNat (wordB w 4) else bs) := by
  refine ok24 fun _ _ => ?_
  simp (disch := omega) only [F24, J24_0, i]
  refine (word_ok M x hx).mono ?_
  rintro _ h ⟨rfl, rfl⟩
  by_cases hc : x % 4 = 0 ∧ spanIn bs x 4
  · rw [if_pos hc, if_pos hc, if_pos hc]
    have fit : x.toNat + 4 ≤ bs.length := by have := hc.2; unfold spanIn at this; omega
    have hl : ∀ h, lenL Try.prog 33 (.slice a x.toNat 4 (.ex 4)) h = some (.int .i64 4) := fun h => by simp only [lenL, ph_ts]; rfl
    simp (disch := omega) only [J24_1, J24_2, J24_4, i, sh, sh2, shi, dec, b_len, hl]
    refine loop_n (fun n s h' => ∃ k : Nat, s = .int .i64 (k : Int) ∧ k + n = 4 ∧ MemTo h h' a (putB bs x.toNat (wordB w k))) (n := 4) ⟨0, rfl, rfl, Fr.refl _ _, ?_⟩ ?_
    · have := M.b
      simpa [putB, wordB] using this
    · rintro n s h1 ⟨k, rfl, hk, T⟩
      cases n with
      | zero =>
        obtain rfl : k = 4 := by omega
        simp (disch := omega) only [L24_5, J24_3, i, sh, sh2, shi, dec]
        exact ⟨trivial, T⟩
      | succ n =>
        have hs : binL Try.prog .shr 57 false (.int .u32 w) (.int .i64 (8 * (k : Int))) = some (.int .u32 (w.fdiv (2 ^ (8 * k)))) := by
          have := ph_shr w (8 * k) (by omega)
          rw [show ((8 * k : Nat) : Int) = 8 * (k : Int) by omega] at this
          exact this
        have hst := ph_set T.at_ (k := x.toNat + k) (by rw [putB_len (by rw [wordB_len]; omega)]; omega) (byteN w k)
        have hix : ixAddrL none 1 (.slice a x.toNat 4 (.ex 4)) (.int .i64 (k : Int)) = some (.ptr a (x.toNat + k)) := by rw [ix_nat _ _ (by omega), Nat.mul_one]
        unfold byteN at hst
        simp (disch := omega) only [L24_5, i, sh, sh2, shi, dec, hs, ph_cv, hix, hst]
        refine ⟨n, by omega, k + 1, rfl, by omega, T.fr.set' _ (.inr rfl), ?_⟩
        rw [get_set_eq, show wordB w (k + 1) = wordB w k ++ [byteN w k] by simp [wordB, List.range_succ], putB_snoc (by rw [wordB_len]; omega), wordB_len]
        rfl
  · rw [if_neg hc, if_neg hc, if_neg hc]
    simp (disch := omega) only [J24_1, i, sh, sh2, shi, dec]
    exact ⟨trivial, Fr.refl _ _, M.b⟩
theorem rep_b8 (n : Nat) : (List.replicate n (LV.cells (B8 0))).flatten = (List.replicate n (0 : Int)).map B8 := by
  rw [List.map_replicate]
  induction n with
  | zero => rfl
  | succ n ih => rw [List.replicate_succ, List.flatten_cons, ih, List.replicate_succ]; rfl
theorem ph_mk {n : Nat} (hn : n ≤ 2 ^ 40) (h : LHeap) : makeSliceL Try.prog 33 (i n) (i n) h = some (.slice h.next 0 n (.ex n), h.alloc (.cells ((zerosB n).map B8) .ex)) := by
  have e : makeSliceL Try.prog 33 (i n) (i n) h = if 0 ≤ (n : Int) ∧ (n : Int) ≤ n ∧ (1 : Int) * n ≤ 2 ^ 48 ∧ (n : Int) < 2 ^ 62 ∧ (B8 0).cells.length = 1 ∧ (B8 0).cellsOK = true then
            some (.slice h.next 0 (n : Int).toNat (.ex (n : Int).toNat), h.alloc (.cells (List.replicate (n : Int).toNat (B8 0).cells).flatten .ex)) else none := nr (by kernel_rfl)
  rw [e, if_pos ⟨by omega, by omega, by omega, by omega, rfl, rfl⟩]
  simp only [Int.toNat_natCast]
  rw [rep_b8]
  rfl
theorem ph_bl (a n : Nat) : buildL Try.prog 100 [(0, .slice a 0 n (.ex n))] = some (.agg [.slice a 0 n (.ex n)]) := nr (by kernel_rfl)
abbrev memTs (m a : Nat) (bs : List Int) : List Thing := [Thing.cells a (bs.map B8), Thing.cells m [.slice a 0 bs.length (.ex bs.length)]]
theorem memNew_no {x : Int} (h : ¬ (1 ≤ x ∧ x ≤ 4096)) : Ok Try.prog 20 [i x] g fun v h => v = .tuple [.nilp, i 1] ∧ h = g := by
  refine ok20 fun _ _ => ?_
  by_cases h1 : x < 1
  · simp (disch := omega) only [F20, i, sh, sh2, shi, dec]
    exact ⟨trivial, trivial⟩
  · simp (disch := omega) only [F20, i, sh, sh2, shi, dec]
    exact ⟨trivial, trivial⟩
theorem memNew_ok {x : Int} (h0 : 1 ≤ x) (h1 : x ≤ 4096) : Ok Try.prog 20 [i x] g fun v h => ∃ m a, v = .tuple [.ptr m 0, i 0] ∧ Sep noF g h (memTs m a (zerosB (256 * x.toNat))) := by
  refine ok20 fun _ _ => ?_
  obtain ⟨k, rfl⟩ : ∃ k : Nat, x = k := ⟨x.toNat, by omega⟩
  have hmk := ph_mk (n := 256 * k) (by omega) g
  rw [show ((256 * k : Nat) : Int) = (k : Int) * 256 by omega] at hmk
  have hb := ph_bl g.next (256 * k)
  have hn : newL (.agg [.slice g.next 0 (256 * k) (.ex (256 * k))]) (g.alloc (.cells ((zerosB (256 * k)).map B8) .ex)) = some (.ptr (g.next + 1) 0, (g.alloc (.cells ((zerosB (256 * k)).map B8) .ex)).alloc (.cells [.slice g.next 0 (256 * k) (.ex (256 * k))] .ex)) := new_agg _ _ (fun v hv => by cases hv with | head => rfl | tail _ h => cases h)
  simp only [i] at hmk
  simp (disch := omega) only [F20, i, sh, sh2, shi, dec, hmk, hb, hn]
  have S := ((Sep.start noF g).new ((zerosB (256 * k)).map B8)).new [.slice g.next 0 (256 * k) (.ex (256 * k))]
  refine ⟨g.next + 1, g.next, rfl, ?_⟩
  have e : (zerosB (256 * (k : Int).toNat)).length = 256 * k := by simp [zerosB]
  unfold memTs
  rw [e]
  exact S
end
end Go.Proofs.Ytoajcekgoalhjaa
