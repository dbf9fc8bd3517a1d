/-
  buf: Read, Write.
-/
import Derived.Test.YtoajcekgoalhjaaBf7
set_option linter.all false
namespace Go.Proofs.Ytoajcekgoalhjaa
open Go.ChangeShapes Go.WideShapes Go.ChangeAt Go.RowKit Go.Lm
set_option linter.unusedSimpArgs false
set_option maxRecDepth 10000
theorem bl97 (V : LV) (hV : V.cell = true) : buildL Try.prog 97 [(0, V)] = some (.agg [V, .bool false]) := by
  cases V <;> first | (cases hV; done) | exact nr (by kernel_rfl)
theorem bl97t (V : LV) (hV : V.cell = true) : buildL Try.prog 97 [(0, V), (1, .bool true)] = some (.agg [V, .bool true]) := by
  cases V <;> first | (cases hV; done) | exact nr (by kernel_rfl)
section
variable {F : Nat → Prop} {g h h' : LHeap} {d c : Nat} {room : Int} {k : CC} {ds : DSt} {ord : List Int} {xs : List BX} {Zs : List Thing} {st : CSt} {S : Nat → Prop}
theorem last_okZ (hm : ord.length < 2 ^ 40) (Sp : Sep F g h (CTs d c room k ds ord xs ++ Zs)) (n : Int) : Ok Try.prog 45 [.ptr c 0, i n] h fun v h' => v = .tuple [] ∧ ∃ OV', Sep F g h' (CTs d c room { k with OV := OV' } ds ((ord.filter fun x => !(x == n)) ++ [n]) xs ++ Zs) := by
  refine (last_ok hm Sp.self n).mono ?_
  rintro v h' ⟨rfl, OV', S'⟩
  exact ⟨rfl, OV', Go.Lm.Sep.frame Sp S'⟩
theorem makeRoom_okZ (hm : ord.length < 2 ^ 40) (nd : (xs.map BX.n).Nodup) (hmem : ∀ n ∈ ord, ∃ x, bget xs n = some x) (Sp : Sep F g h (CTs d c room k ds ord xs ++ Zs)) : Ok Try.prog 48 [.ptr c 0] h fun v h' =>
    (v = .bool true ∧ (ord.length : Int) < room ∧ Sep F g h' (CTs d c room k ds ord xs ++ Zs)) ∨
    (v = .bool false ∧ room ≤ ord.length ∧ (∀ n ∈ ord, clean xs n = false) ∧ Sep F g h' (CTs d c room k ds ord xs ++ Zs)) ∨
    (v = .bool true ∧ room ≤ ord.length ∧ ∃ a n b x k', ord = a ++ n :: b ∧ bget xs n = some x ∧ x.t = false ∧ Sep F g h' (CTs d c room k' ds (a ++ b) (rest n xs) ++ Zs)) := by
  refine (makeRoom_ok hm nd hmem Sp.self).mono ?_
  rintro v h' (⟨h1, h2, S'⟩ | ⟨h1, h2, h3, S'⟩ | ⟨h1, h2, a, n, b, x, k', h3, h4, h5, S'⟩)
  · exact .inl ⟨h1, h2, Go.Lm.Sep.frame Sp S'⟩
  · exact .inr (.inl ⟨h1, h2, h3, Go.Lm.Sep.frame Sp S'⟩)
  · exact .inr (.inr ⟨h1, h2, a, n, b, x, k', h3, h4, h5, Go.Lm.Sep.frame Sp S'⟩)
theorem CTs_left (Sp : Sep F g h (CTs d c room k ds ord xs ++ Zs)) : Sep F g h (CTs d c room k ds ord xs) := Sp.sub (List.sublist_append_left _ _)
theorem count_ok {ds : DSt} {Sd : Nat → Prop} (B : (DBox d Sd ds).ok h) (lt : ∀ a, Sd a → a < h.next) : Ok Try.prog 47 [.ptr d 0] h fun v h' => v = i ds.cnt ∧ h' = h := by
  obtain ⟨Ts, ⟨cc, ws, rfl, hpd, dw⟩, Sp⟩ := box_open B lt
  have Sp0 : Sep Sd h h (DkTs d cc ds.pl ws ++ []) := by rw [List.append_nil]; exact Sp
  exact wr_at dw.pl ⟨dw.c1, dw.c2⟩ Sp0
/-- A block is laid under its number. -/
theorem lay_blk {V : LV} {b : List Int} (t : Bool) (n : Int) (Sp : Sep F g h (CTs d c room k ds ord xs ++ Zs ++ [Thing.vec byteE V b])) :
    ∃ H nb', mapSetL Try.prog 89 (.map k.bm) (.int .i64 n) (.ptr h.next 0) (h.alloc (.cells [V, .bool t] .ex)) = some H ∧ Sep F g H (CTs d c room { k with nb := nb' } ds ord (rest n xs ++ [(⟨n, h.next, V, b, t⟩ : BX)]) ++ Zs) := by
  have S1 := Sp.new [V, .bool t]
  obtain ⟨H, nb', em, S2, f2⟩ := S1.mset' (P := Try.prog) (κ := Int) (m := k.bm) (mp := fun n => (bget xs n).map BX.ptr) (n := k.nb) intK 3 rfl ty89 n (.ptr h.next 0)
  refine ⟨H, nb', em, ?_⟩
  have hup : upd (fun n => (bget xs n).map BX.ptr) n (some (.ptr h.next 0)) = fun m => (bget (rest n xs ++ [(⟨n, h.next, V, b, t⟩ : BX)]) m).map BX.ptr := by
    funext m
    have := bget_set (⟨n, h.next, V, b, t⟩ : BX) xs m
    simp only at this
    rw [this]
    by_cases hm : m = n
    · subst hm; rw [upd_at, if_pos rfl]; rfl
    · rw [upd_ne _ _ hm, if_neg hm]
  rw [hup] at S2
  have S3 := S2.sub (Us := [DBox d k.Sd ds, Thing.cells c (cells8 d room k), Thing.vec intE k.OV ord, Thing.map k.bm intK.k (fun m => (bget (rest n xs ++ [(⟨n, h.next, V, b, t⟩ : BX)]) m).map BX.ptr) nb'] ++ ((rest n xs).flatMap BX.Ts ++ (Zs ++ [Thing.vec byteE V b, Thing.cells h.next [V, .bool t]]))) (by
    show List.Sublist _ ([DBox d k.Sd ds, Thing.cells c (cells8 d room k), Thing.vec intE k.OV ord, Thing.map k.bm intK.k (fun m => (bget (rest n xs ++ [(⟨n, h.next, V, b, t⟩ : BX)]) m).map BX.ptr) nb'] ++ (xs.flatMap BX.Ts ++ Zs ++ [Thing.vec byteE V b] ++ [Thing.cells h.next [V, .bool t]]))
    refine List.Sublist.append (List.Sublist.refl _) ?_
    rw [List.append_assoc, List.append_assoc]
    exact List.Sublist.append (sub_flat (rest_sub n xs) _) (List.Sublist.refl _))
  refine S3.perm ?_
  rw [CTs, List.flatMap_append, List.append_assoc]
  refine List.Perm.append_left _ ?_
  rw [List.append_assoc]
  refine List.Perm.append_left _ ?_
  exact List.perm_append_comm
theorem mem_x (hb : st.bs = fun n => (bget xs n).map fun x => (x.b, x.t)) (w : CWf st) : ∀ n ∈ st.ord, ∃ x, bget xs n = some x := fun n hn => by
  have := (w.mem n).1 hn
  rw [hb] at this
  obtain ⟨y, hy⟩ := Option.isSome_iff_exists.1 this
  cases hx : bget xs n with
  | some x => exact ⟨x, rfl⟩
  | none => simp only [hx] at hy; cases hy
theorem bs_set {x : BX} (hb : st.bs = fun n => (bget xs n).map fun x => (x.b, x.t)) : (st.put x.n x.b x.t).bs = fun n => (bget (rest x.n xs ++ [x]) n).map fun x => (x.b, x.t) := by
  funext m
  show upd st.bs x.n (some (x.b, x.t)) m = _
  rw [bget_set]
  by_cases hm : m = x.n
  · subst hm; rw [upd_at, if_pos rfl]; rfl
  · rw [upd_ne _ _ hm, if_neg hm, hb]
theorem bs_gone {n : Int} {o : List Int} (hb : st.bs = fun n => (bget xs n).map fun x => (x.b, x.t)) : (st.gone o n).bs = fun m => (bget (rest n xs) m).map fun x => (x.b, x.t) := by
  funext m
  show upd st.bs n none m = _
  rw [bget_rest]
  by_cases hm : m = n
  · subst hm; rw [upd_at, if_pos rfl]; rfl
  · rw [upd_ne _ _ hm, if_neg hm, hb]
theorem bs_in {n : Int} {b : List Int} {t : Bool} (h : st.bs n = some (b, t)) : (st.put n b t).bs = st.bs := by
  funext m
  show upd st.bs n (some (b, t)) m = _
  by_cases hm : m = n
  · subst hm; rw [upd_at, h]
  · rw [upd_ne _ _ hm]
/-- A fresh copy of a row, behind what there is. -/
theorem copy_ok {Ts : List Thing} (Sp : Sep F g h Ts) {U : LV} {b : List Int} (R : Row h U byteE b) (hb : b.length ≤ 2 ^ 40) : Ok Try.prog 46 [U] h fun V h' => V.cell = true ∧ Sep F g h' (Ts ++ [Thing.vec byteE V b]) ∧ Fr noF h h' := by
  refine (clone46_ok R (by omega)).mono ?_
  rintro V h' ⟨O, mi, f⟩
  exact ⟨O.row.cell, Sp.vec V O.row O.grow mi f O.lo, f⟩
theorem room_ok (Sp : Sep F g h (CTs d c st.room k st.d st.ord xs ++ Zs)) (hb : st.bs = fun n => (bget xs n).map fun x => (x.b, x.t)) (nd : (xs.map BX.n).Nodup) (w : CWf st) : Ok Try.prog 48 [.ptr c 0] h fun v h' =>
    (v = .bool false ∧ CAt F g h' d c st Zs) ∨
    (v = .bool true ∧ ∃ st1 k1 xs1, Sep F g h' (CTs d c st1.room k1 st1.d st1.ord xs1 ++ Zs) ∧ (st1.bs = fun n => (bget xs1 n).map fun x => (x.b, x.t)) ∧ (xs1.map BX.n).Nodup ∧ CWf st1 ∧ (st1.ord.length : Int) < st1.room ∧ Same st st1 ∧ ∀ m, st.bs m = none → st1.bs m = none) := by
  have hle := w.le
  have hr2 := w.r2
  refine (makeRoom_okZ (by omega) nd (mem_x hb w) Sp).mono ?_
  rintro v h' (⟨h1, h2, S'⟩ | ⟨h1, h2, h3, S'⟩ | ⟨h1, h2, a, n, b, x, k', h3, h4, h5, S'⟩)
  · exact .inr ⟨h1, st, k, xs, S', hb, nd, w, h2, Same.refl _, fun _ h => h⟩
  · exact .inl ⟨h1, k, xs, S', hb, nd, w⟩
  · have hbn : st.bs n = some (x.b, false) := by rw [hb]; simp only [h4, Option.map_some, h5]
    refine .inr ⟨h1, st.gone (a ++ b) n, k', rest n xs, S', bs_gone hb, rest_nd nd, w.gone h3, ?_, same_gone w hbn _, fun m hm => ?_⟩
    · show (((a ++ b).length : Nat) : Int) < st.room
      rw [h3] at hle
      simp only [List.length_append, List.length_cons] at hle ⊢
      omega
    · show upd st.bs n none m = none
      by_cases hmn : m = n
      · subst hmn; rw [upd_at]
      · rw [upd_ne _ _ hmn]; exact hm
def CT1 (d c : Nat) (room : Int) (k : CC) (ord : List Int) (xs : List BX) : List Thing :=
  [Thing.cells c [.ptr d 0, i room, .map k.bm, k.OV, i k.h, i k.m, i k.e, i k.w], Thing.vec intE k.OV ord, Thing.map k.bm intK.k (fun n => (bget xs n).map BX.ptr) k.nb] ++ xs.flatMap BX.Ts
/-- A call of the disk. -/
theorem dcall {Sd' : Nat → Prop} {ds' : DSt} {Ws : List Thing} (S1 : Sep F g h (CTs d c room k ds ord xs ++ Zs)) (S2 : Sep k.Sd h h' (DBox d Sd' ds' :: Ws)) : Sep F g h' (CTs d c room { k with Sd := Sd' } ds' ord xs ++ (Zs ++ Ws)) := by
  have S1' : Sep F g h (DBox d k.Sd ds :: (CT1 d c room k ord xs ++ Zs)) := S1
  have S3 := S1'.callF rfl S2
  refine S3.perm ?_
  show List.Perm ([DBox d Sd' ds'] ++ (Ws ++ (CT1 d c room k ord xs ++ Zs))) ([DBox d Sd' ds'] ++ (CT1 d c room k ord xs ++ (Zs ++ Ws)))
  refine List.Perm.append_left _ ?_
  rw [← List.append_assoc (CT1 d c room k ord xs)]
  exact List.perm_append_comm
theorem CRead_ok (B : (CBox d c S st).ok g) (lt : ∀ a, S a → a < g.next) (n : Int) : Ok Try.prog 13 [.ptr c 0, i n] g fun v h =>
    (v = .tuple [.nils, i 20] ∧ ¬ (0 ≤ n ∧ n < st.d.cnt) ∧ ∃ S', Sep S g h [CBox d c S' st]) ∨
    (v = .tuple [.nils, i 150] ∧ (0 ≤ n ∧ n < st.d.cnt) ∧ ∃ S', Sep S g h [CBox d c S' st]) ∨
    (∃ V st' S', v = .tuple [V, i 0] ∧ (0 ≤ n ∧ n < st.d.cnt) ∧ V.cell = true ∧ Same st st' ∧ Sep S g h [CBox d c S' st', Thing.vec byteE V (st.view n)]) := by
  refine ok13 fun wf _ => ?_
  obtain ⟨k, xs, Sp, hb, nd, w⟩ := CAt.of_box B lt
  have hle := w.le
  have hr2 := w.r2
  have x0 := Sp.cell (a := c) (vs := cells8 d st.room k) 1 rfl
  simp (disch := omega) only [F13, i]
  refine (made_ok x0).mono ?_
  rintro _ g ⟨rfl, rfl⟩
  simp only [i, cells8] at x0
  cases hx : bget xs n with
  | some x =>
    have hbs : st.bs n = some (x.b, x.t) := by rw [hb]; simp only [hx]; rfl
    have hin := w.blk n _ _ hbs
    obtain ⟨l1, l2, l3, l4⟩ := blk_at (CTs_left Sp) hx
    have S1 := Sp.store (a := c) (vs := cells8 d st.room k) 1 rfl [.ptr d 0, i st.room, .map k.bm, k.OV, i (IntKind.i64.wrap (k.h + 1)), i k.m, i k.e, i k.w]
    have S1' : Sep S g (g.set c (.cells [.ptr d 0, i st.room, .map k.bm, k.OV, i (IntKind.i64.wrap (k.h + 1)), i k.m, i k.e, i k.w] .ex)) (CTs d c st.room { k with h := IntKind.i64.wrap (k.h + 1) } st.d st.ord xs ++ []) := S1
    simp (disch := omega) only [sh, sh2, shs, i, x0, l1, binL_add_int]
    refine (last_okZ (by omega) S1' n).mono ?_
    rintro _ h1 ⟨rfl, OV', S2⟩
    obtain ⟨_, _, m3, m4⟩ := blk_at (CTs_left S2) hx
    simp (disch := omega) only [sh, sh2, m3]
    refine (copy_ok S2 m4 (by omega)).mono ?_
    rintro V h2 ⟨cV, S3, _⟩
    have A : CAt S g h2 d c (st.put n x.b x.t) [Thing.vec byteE V x.b] := ⟨_, xs, by rw [List.append_nil] at S3; exact S3, (bs_in hbs).trans hb, nd, w.put hin.1 hin.2.1 hin.2.2 (.inl ((w.mem n).2 (by rw [hbs]; rfl)))⟩
    obtain ⟨S', S4⟩ := A.to_box
    refine .inr (.inr ⟨V, _, S', rfl, hin.1, cV, same_put_in hbs, ?_⟩)
    have : st.view n = x.b := by rw [CSt.view, hbs]
    rw [this]; exact S4
  | none =>
    have l1 := blk_no (CTs_left Sp) hx
    have hbs : st.bs n = none := by rw [hb]; simp only [hx]; rfl
    have box0 : ∀ {h' : LHeap}, Sep S g h' (CTs d c st.room k st.d st.ord xs ++ []) → ∃ S', Sep S g h' [CBox d c S' st] := fun S' => CAt.to_box ⟨k, xs, S', hb, nd, w⟩
    by_cases h0 : n < 0
    · simp (disch := omega) only [sh, sh2, i, x0, l1, shi, dec]
      exact .inl ⟨trivial, by omega, box0 Sp⟩
    simp (disch := omega) only [sh, sh2, i, x0, l1, shi, dec]
    refine (count_ok (ds := st.d) (Sd := k.Sd) (Sp.at 0 rfl) (Sp.boxlt (D := DkD d) (S := k.Sd) (x := st.d) 0 rfl)).mono ?_
    rintro _ g ⟨rfl, rfl⟩
    by_cases h1 : n < st.d.cnt
    rotate_left
    · simp (disch := omega) only [sh, sh2, i, shi, dec]
      exact .inl ⟨trivial, by omega, box0 Sp⟩
    have hin : 0 ≤ n ∧ n < st.d.cnt := ⟨by omega, h1⟩
    simp (disch := omega) only [sh, sh2, i, shi, dec]
    refine (room_ok Sp hb nd w).mono ?_
    rintro _ h2 (⟨rfl, A⟩ | ⟨rfl, st1, k1, xs1, S1, hb1, nd1, w1, hl1, sm1, hn1⟩)
    · simp (disch := omega) only [sh, sh2, i]
      exact .inr (.inl ⟨trivial, hin, A.to_box⟩)
    have hbs1 := hn1 n hbs
    have x1 := S1.cell (a := c) (vs := cells8 d st1.room k1) 1 rfl
    simp only [i, cells8] at x1
    simp (disch := omega) only [sh, sh2, x1]
    have hin1 : 0 ≤ n ∧ n < st1.d.cnt := by rw [sm1.d]; exact hin
    refine (Read_ok (d := d) (S := k1.Sd) (st := st1.d) (S1.at 0 rfl) (S1.boxlt (D := DkD d) (S := k1.Sd) (x := st1.d) 0 rfl) n).mono ?_
    rintro _ h3 (⟨hno, _⟩ | ⟨_, U, Sd', rfl, cU, S2⟩)
    · exact absurd hin1 hno
    have S4 : Sep S g h3 (CTs d c st1.room { k1 with Sd := Sd' } st1.d st1.ord xs1 ++ [Thing.vec byteE U (st1.d.rd n)]) := dcall S1 S2
    have x4 := S4.cell (a := c) (vs := cells8 d st1.room k1) 1 rfl
    have S5 := S4.store (a := c) (vs := cells8 d st1.room k1) 1 rfl [.ptr d 0, i st1.room, .map k1.bm, k1.OV, i k1.h, i (IntKind.i64.wrap (k1.m + 1)), i k1.e, i k1.w]
    have S5' : Sep S g (h3.set c (.cells [.ptr d 0, i st1.room, .map k1.bm, k1.OV, i k1.h, i (IntKind.i64.wrap (k1.m + 1)), i k1.e, i k1.w] .ex)) (CTs d c st1.room { k1 with Sd := Sd', m := IntKind.i64.wrap (k1.m + 1) } st1.d st1.ord xs1 ++ [Thing.vec byteE U (st1.d.rd n)]) := S5
    have x5 := S5'.cell (a := c) (vs := cells8 d st1.room { k1 with Sd := Sd', m := IntKind.i64.wrap (k1.m + 1) }) 1 rfl
    have hlu : (CTs d c st1.room { k1 with Sd := Sd', m := IntKind.i64.wrap (k1.m + 1) } st1.d st1.ord xs1 ++ [Thing.vec byteE U (st1.d.rd n)])[(CTs d c st1.room { k1 with Sd := Sd', m := IntKind.i64.wrap (k1.m + 1) } st1.d st1.ord xs1).length]? = some (Thing.vec byteE U (st1.d.rd n)) := by simp
    have RU := S5'.row _ hlu
    have hrl := rd_len w1.dw hin1.1 hin1.2
    simp only [i, cells8] at x4 x5
    simp (disch := omega) only [sh, sh2, shs, i, shi, dec, x4, x5, binL_add_int, and_true]
    refine (copy_ok S5' RU (by omega)).mono ?_
    rintro V h4 ⟨cV, S6, _⟩
    have x6 := S6.cell (a := c) (vs := cells8 d st1.room { k1 with Sd := Sd', m := IntKind.i64.wrap (k1.m + 1) }) 1 rfl
    have x6' := (S6.temp (.cells [V, .bool false] .ex)).cell (a := c) (vs := cells8 d st1.room { k1 with Sd := Sd', m := IntKind.i64.wrap (k1.m + 1) }) 1 rfl
    obtain ⟨H, nb', em, S7⟩ := lay_blk false n S6
    have hnw := new_agg [V, .bool false] h4 (by simp [cV]; rfl)
    simp only [i, cells8] at x6 x6'
    simp (disch := omega) only [sh, sh2, x6, bl97 V cV, hnw, x6', em, true_and, and_true]
    refine (last_okZ (by have := w1.le; have := w1.r2; omega) S7 n).mono ?_
    rintro _ h5 ⟨rfl, OV', S8⟩
    have A : CAt S g h5 d c (st1.put n (st1.d.rd n) false) [Thing.vec byteE U (st1.d.rd n)] := ⟨_, _, S8, bs_set (x := ⟨n, h4.next, V, st1.d.rd n, false⟩) hb1, set_nd (x := ⟨n, h4.next, V, st1.d.rd n, false⟩) nd1, w1.put hin1 hrl (fun _ => rfl) (.inr hl1)⟩
    obtain ⟨S', S9⟩ := A.to_box
    refine .inr (.inr ⟨U, _, S', rfl, hin, cU, sm1.trans (same_put_new hbs1), ?_⟩)
    have : st.view n = st1.d.rd n := by rw [← sm1.view, CSt.view, hbs1]
    rw [this]; exact S9
end
end Go.Proofs.Ytoajcekgoalhjaa
