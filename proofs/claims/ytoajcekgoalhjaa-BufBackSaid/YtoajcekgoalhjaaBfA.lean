/-
  buf: Back, Kept, Dirty, Forget, New.
-/
import Derived.Test.YtoajcekgoalhjaaBf9
import Derived.Test.YtoajcekgoalhjaaBfS
set_option linter.all false
namespace Go.Proofs.Ytoajcekgoalhjaa
open Go.ChangeShapes Go.WideShapes Go.ChangeAt Go.RowKit Go.Lm
set_option linter.unusedSimpArgs false
set_option maxRecDepth 10000
theorem flat_perm {A B : Type} {l m : List A} (h : l.Perm m) (f : A → List B) : (l.flatMap f).Perm (m.flatMap f) := by
  induction h with
  | nil => exact .refl _
  | cons x _ ih => rw [List.flatMap_cons, List.flatMap_cons]; exact List.Perm.append_left _ ih
  | swap x y l =>
    rw [List.flatMap_cons, List.flatMap_cons, List.flatMap_cons, List.flatMap_cons, ← List.append_assoc, ← List.append_assoc]
    exact List.Perm.append_right _ List.perm_append_comm
  | trans _ _ h1 h2 => exact h1.trans h2
theorem permZ (A M Z : List Thing) (z : Thing) : (A ++ (M ++ [z]) ++ Z).Perm ([z] ++ (A ++ M ++ Z)) := by
  have e : A ++ (M ++ [z]) ++ Z = (A ++ M) ++ z :: Z := by simp
  rw [e]
  exact List.perm_middle
section
variable {F : Nat → Prop} {g h h' : LHeap} {d c : Nat} {room : Int} {k : CC} {ds : DSt} {ord : List Int} {xs : List BX} {Zs : List Thing} {st : CSt} {S : Nat → Prop}
/-- A block's mark is stored. -/
theorem store_blk (Sp : Sep F g h (CTs d c room k ds ord xs ++ Zs)) {n : Int} {x : BX} (nd : (xs.map BX.n).Nodup) (hx : bget xs n = some x) (t : Bool) : Sep F g (h.set x.p (.cells [x.V, .bool t] .ex)) (CTs d c room k ds ord (rest n xs ++ [({ x with t := t } : BX)]) ++ Zs) := by
  have hxn := (bget_mem hx).2
  subst hxn
  let H4 : List Thing := [DBox d k.Sd ds, Thing.cells c (cells8 d room k), Thing.vec intE k.OV ord, Thing.map k.bm intK.k (fun n => (bget xs n).map BX.ptr) k.nb]
  have p1 : (CTs d c room k ds ord xs ++ Zs).Perm ([Thing.cells x.p [x.V, .bool x.t]] ++ (H4 ++ ((rest x.n xs).flatMap BX.Ts ++ [Thing.vec byteE x.V x.b]) ++ Zs)) := by
    have p2 : (xs.flatMap BX.Ts).Perm ((rest x.n xs).flatMap BX.Ts ++ [Thing.vec byteE x.V x.b] ++ [Thing.cells x.p [x.V, .bool x.t]]) := by
      have := flat_perm (rest_perm nd hx) BX.Ts
      rw [List.flatMap_append] at this
      simpa [BX.Ts] using this
    show (H4 ++ xs.flatMap BX.Ts ++ Zs).Perm _
    exact (List.Perm.append_right Zs (List.Perm.append_left H4 p2)).trans (permZ _ _ _ _)
  have S1 := (Sp.perm p1).store (a := x.p) (vs := [x.V, .bool x.t]) 0 rfl [x.V, .bool t]
  refine S1.perm ?_
  have hm : (fun n => (bget xs n).map BX.ptr) = fun n => (bget (rest x.n xs ++ [({ x with t := t } : BX)]) n).map BX.ptr := by
    funext m
    have := bget_set ({ x with t := t } : BX) xs m
    simp only at this
    rw [this]
    by_cases hm : m = x.n
    · subst hm; rw [if_pos rfl, hx]; rfl
    · rw [if_neg hm]
  have e : CTs d c room k ds ord (rest x.n xs ++ [({ x with t := t } : BX)]) = H4 ++ ((rest x.n xs).flatMap BX.Ts ++ [Thing.vec byteE x.V x.b] ++ [Thing.cells x.p [x.V, .bool t]]) := by
    show [DBox d k.Sd ds, Thing.cells c (cells8 d room k), Thing.vec intE k.OV ord, Thing.map k.bm intK.k (fun n => (bget (rest x.n xs ++ [({ x with t := t } : BX)]) n).map BX.ptr) k.nb] ++ (rest x.n xs ++ [({ x with t := t } : BX)]).flatMap BX.Ts = _
    rw [← hm, List.flatMap_append]
    simp [BX.Ts, H4]
  rw [e]
  exact (permZ H4 ((rest x.n xs).flatMap BX.Ts ++ [Thing.vec byteE x.V x.b]) Zs (Thing.cells x.p [x.V, .bool t])).symm
theorem CWf.back {st : CSt} (w : CWf st) {n : Int} {b : List Int} (hn : st.bs n = some (b, true)) : CWf { st with d := st.d.wr n b, bs := upd st.bs n (some (b, false)) } := by
  have hin := w.blk n b true hn
  refine ⟨w.dw.wr ⟨hin.1.1, hin.1.2, hin.2.1⟩, w.r1, w.r2, w.nd, w.le, fun m => ?_, fun m b' t' h => ?_⟩
  · show m ∈ st.ord ↔ (upd st.bs n (some (b, false)) m).isSome = true
    by_cases hm : m = n
    · subst hm; rw [upd_at, w.mem, hn]; simp
    · rw [upd_ne _ _ hm]; exact w.mem m
  · have h : upd st.bs n (some (b, false)) m = some (b', t') := h
    show (0 ≤ m ∧ m < st.d.cnt) ∧ _ ∧ (t' = false → b' = (st.d.wr n b).rd m)
    rw [rd_wr]
    by_cases hm : m = n
    · subst hm
      rw [upd_at] at h
      cases h
      exact ⟨hin.1, hin.2.1, fun _ => by rw [if_pos rfl]⟩
    · rw [upd_ne _ _ hm] at h
      rw [if_neg (Ne.symm hm)]
      exact w.blk m b' t' h
theorem CBack_ok (B : (CBox d c S st).ok g) (lt : ∀ a, S a → a < g.next) (n : Int) (hp : st.d.pd.length ≤ 2 ^ 42 + 1000) : Ok Try.prog 17 [.ptr c 0, i n] g fun v h =>
    (v = .tuple [.bool false, i 0] ∧ st.dty n = false ∧ ∃ S', Sep S g h [CBox d c S' st]) ∨
    (v = .tuple [.bool true, i 0] ∧ st.dty n = true ∧ ∃ st' S', st'.room = st.room ∧ st'.d = st.d.wr n (st.view n) ∧ st'.view = st.view ∧ (∀ m, st'.dty m = if m = n then false else st.dty m) ∧ Sep S g h [CBox d c S' st']) := by
  refine ok17 fun wf _ => ?_
  obtain ⟨k, xs, Sp, hb, nd, w⟩ := CAt.of_box B lt
  have x0 := Sp.cell (a := c) (vs := cells8 d st.room k) 1 rfl
  simp (disch := omega) only [F17, i]
  refine (made_ok x0).mono ?_
  rintro _ g ⟨rfl, rfl⟩
  simp only [i, cells8] at x0
  have box0 : ∃ S', Sep S g g [CBox d c S' st] := CAt.to_box ⟨k, xs, Sp, hb, nd, w⟩
  cases hx : bget xs n with
  | none =>
    have l1 := blk_no (CTs_left Sp) hx
    have hbs : st.bs n = none := by rw [hb]; simp only [hx]; rfl
    simp (disch := omega) only [sh, sh2, i, l1, x0]
    exact .inl ⟨trivial, by simp [CSt.dty, hbs], box0⟩
  | some x =>
    obtain ⟨l1, _, l3, l4⟩ := blk_at (CTs_left Sp) hx
    cases hxt : x.t with
    | false =>
      have hbs : st.bs n = some (x.b, false) := by rw [hb]; simp only [hx, Option.map_some, hxt]
      rw [hxt] at l3
      simp (disch := omega) only [sh, sh2, i, l1, x0, l3]
      exact .inl ⟨trivial, by simp [CSt.dty, hbs], box0⟩
    | true =>
      have hbs : st.bs n = some (x.b, true) := by rw [hb]; simp only [hx, Option.map_some, hxt]
      have hin := w.blk n _ _ hbs
      rw [hxt] at l3
      simp (disch := omega) only [sh, sh2, i, l1, x0, l3, and_true]
      refine (Write_ok (d := d) (S := k.Sd) (st := st.d) (Sp.at 0 rfl) (Sp.boxlt (D := DkD d) (S := k.Sd) (x := st.d) 0 rfl) n l4 (by omega) hp).mono ?_
      rintro _ h1 (⟨hno, _⟩ | ⟨_, hno, _⟩ | ⟨_, _, rfl, Sd', S2⟩)
      · exact absurd hin.1 hno
      · exact absurd hin.2.1 hno
      have S3 := dcall Sp S2
      have hxn := (bget_mem hx).2
      obtain ⟨_, _, m3, _⟩ := blk_at (CTs_left S3) hx
      have S4 := store_blk S3 nd hx false
      have x4 := S4.cell (a := c) (vs := cells8 d st.room k) 1 rfl
      have S5 := S4.store (a := c) (vs := cells8 d st.room k) 1 rfl [.ptr d 0, i st.room, .map k.bm, k.OV, i k.h, i k.m, i k.e, i (IntKind.i64.wrap (k.w + 1))]
      simp only [i, cells8] at x4
      simp (disch := omega) only [sh, sh2, shs, i, shi, dec, m3, x4, binL_add_int]
      have hvw : st.view n = x.b := by rw [CSt.view, hbs]
      have A : CAt S g _ d c { st with d := st.d.wr n x.b, bs := upd st.bs n (some (x.b, false)) } [] := ⟨{ k with Sd := Sd', w := IntKind.i64.wrap (k.w + 1) }, _, S5, ?_, ?_, w.back hbs⟩
      · obtain ⟨S', S6⟩ := A.to_box
        refine .inr ⟨trivial, by simp [CSt.dty, hbs], { st with d := st.d.wr n x.b, bs := upd st.bs n (some (x.b, false)) }, S', rfl, by rw [hvw], ?_, fun m => ?_, S6⟩
        · funext m
          show (match upd st.bs n (some (x.b, false)) m with | some (b, _) => b | none => (st.d.wr n x.b).rd m) = st.view m
          by_cases hm : m = n
          · subst hm; rw [upd_at, hvw]
          · rw [upd_ne _ _ hm, rd_wr, if_neg (Ne.symm hm)]; rfl
        · show (match upd st.bs n (some (x.b, false)) m with | some (_, t) => t | none => false) = _
          by_cases hm : m = n
          · subst hm; rw [upd_at, if_pos rfl]
          · rw [upd_ne _ _ hm, if_neg hm]; rfl
      · subst hxn; exact bs_set (st := st) (x := { x with t := false }) hb
      · subst hxn; exact set_nd (x := { x with t := false }) nd
theorem CKept_ok (B : (CBox d c S st).ok g) (lt : ∀ a, S a → a < g.next) : Ok Try.prog 35 [.ptr c 0] g fun V h => CWf st ∧ V.cell = true ∧ Sep S g h [CBox d c S st, Thing.vec intE V st.ord] := by
  refine ok35 fun wf _ => ?_
  obtain ⟨k, xs, Sp, hb, nd, w⟩ := CAt.of_box B lt
  have hle := w.le
  have hr2 := w.r2
  have x0 := Sp.cell (a := c) (vs := cells8 d st.room k) 1 rfl
  simp (disch := omega) only [F35, i]
  refine (made_ok x0).mono ?_
  rintro _ g ⟨rfl, rfl⟩
  simp only [i, cells8] at x0
  simp (disch := omega) only [sh, sh2, x0]
  refine (clone64_ok (Sp.row (V := k.OV) (E := intE) (l := st.ord) 2 rfl) (by omega)).mono ?_
  rintro V h ⟨O, mi, f⟩
  have Sb : Sep S g g [CBox d c S st] := Sep.one B fun a ha => ⟨ha, lt a ha⟩
  exact ⟨w, O.row.cell, Sb.vec V O.row O.grow mi f O.lo⟩
end
end Go.Proofs.Ytoajcekgoalhjaa
