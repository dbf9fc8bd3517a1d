/-
  buf: Forget.
-/
import Derived.Test.YtoajcekgoalhjaaBfB
set_option linter.all false
namespace Go.Proofs.Ytoajcekgoalhjaa
open Go.ChangeShapes Go.WideShapes Go.ChangeAt Go.RowKit Go.Lm
set_option linter.unusedSimpArgs false
set_option maxRecDepth 10000
theorem filter_split {l : List Int} (nd : l.Nodup) {n : Int} (h : n ∈ l) : ∃ a b, l = a ++ n :: b ∧ (l.filter fun x => !(x == n)) = a ++ b := by
  obtain ⟨a, b, rfl⟩ := List.append_of_mem h
  refine ⟨a, b, rfl, ?_⟩
  rw [List.nodup_append] at nd
  obtain ⟨h1, h2, h3⟩ := nd
  rw [List.nodup_cons] at h2
  rw [List.filter_append, List.filter_cons, if_neg (by simp)]
  congr 1
  · exact List.filter_eq_self.2 fun x hx => by simpa using h3 x hx n (List.mem_cons_self ..)
  · exact List.filter_eq_self.2 fun x hx => by simpa using fun e : x = n => h2.1 (e ▸ hx)
section
variable {F : Nat → Prop} {g h h' : LHeap} {d c : Nat} {room : Int} {k : CC} {ds : DSt} {ord : List Int} {xs : List BX} {Zs : List Thing} {st : CSt} {S : Nat → Prop}
theorem drop_okZ (hm : ord.length < 2 ^ 60) (Sp : Sep F g h (CTs d c room k ds ord xs ++ Zs)) (n : Int) : Ok Try.prog 50 [.ptr c 0, i n] h fun v h' => v = .tuple [] ∧ ∃ OV', Sep F g h' (CTs d c room { k with OV := OV' } ds (ord.filter fun x => !(x == n)) xs ++ Zs) := by
  refine (drop_ok hm Sp.self n).mono ?_
  rintro v h' ⟨rfl, OV', S'⟩
  exact ⟨rfl, OV', Go.Lm.Sep.frame Sp S'⟩
theorem CForget_ok (B : (CBox d c S st).ok g) (lt : ∀ a, S a → a < g.next) : Ok Try.prog 18 [.ptr c 0] g fun v h => ∃ z st' S', v = i z ∧ Same st st' ∧ Sep S g h [CBox d c S' st'] := by
  refine ok18 fun wf _ => ?_
  simp (disch := omega) only [F18, J18_0]
  refine (CKept_ok B lt).mono ?_
  rintro KV h0 ⟨w, cK, S0⟩
  have hle := w.le
  have hr2 := w.r2
  have hl := (S0.row (V := KV) (E := intE) (l := st.ord) 1 rfl).len (P := Try.prog) ty50
  have A0 : CAt S g h0 d c st [Thing.vec intE KV st.ord] := CAt.of S0
  simp (disch := omega) only [J18_1, J18_3, i, sh, sh2, b_len, hl]
  refine loop_n (fun n s h => ∃ (j : Nat) (st1 : CSt), s = i (j : Int) ∧ j + n = st.ord.length ∧ Same st st1 ∧ (∀ m ∈ st.ord.drop j, m ∈ st1.ord) ∧ CAt S g h d c st1 [Thing.vec intE KV st.ord]) (n := st.ord.length) ⟨0, st, rfl, by omega, Same.refl _, fun m hm => by simpa using hm, A0⟩ ?_
  rintro n s h ⟨j, st1, rfl, hj, sm, hin, A⟩
  cases n with
  | zero =>
    simp (disch := omega) only [L18_4, J18_2, i, sh, sh2, shi, dec, b_len, hl]
    obtain ⟨S', S1⟩ := A.to_box
    refine (CKept_ok (d := d) (c := c) (S := S') (st := st1) (S1.at 0 rfl) (S1.boxlt (D := CD d c) (S := S') (x := st1) 0 rfl)).mono ?_
    rintro KV2 h2 ⟨w2, cK2, S2⟩
    have hl2 := (S2.row (V := KV2) (E := intE) (l := st1.ord) 1 rfl).len (P := Try.prog) ty50
    have S3 := S1.callF (T := CBox d c S' st1) rfl S2
    simp (disch := omega) only [i, sh, sh2, shi, dec, b_len, hl2, binL_sub_int]
    exact ⟨_, st1, S', rfl, sm, S3.sub (.cons₂ _ (List.nil_sublist _))⟩
  | succ n =>
    obtain ⟨k, xs, Sj, hb, nd, w1⟩ := A
    obtain ⟨y, hy, hd⟩ := drop_at (l := st.ord) (k := j) (by omega)
    rw [hd] at hin
    have hy1 := hin y (List.mem_cons_self ..)
    obtain ⟨x, hx⟩ := mem_x hb w1 y hy1
    have iK : (CTs d c st1.room k st1.d st1.ord xs ++ [Thing.vec intE KV st.ord])[(CTs d c st1.room k st1.d st1.ord xs).length]? = some (Thing.vec intE KV st.ord) := last_at
    have RK := Sj.row _ iK
    have hix := RK.ix (k := .i64) (i := j) (by omega)
    have hld := RK.ld1 hy rfl rfl
    have he : intE.e = 1 := rfl
    rw [he] at hix
    have x0 := Sj.cell (a := c) (vs := cells8 d st1.room k) 1 rfl
    obtain ⟨_, l2, l3, _⟩ := blk_at (CTs_left Sj) hx
    simp only [i, cells8] at x0
    simp (disch := omega) only [L18_4, i, sh, sh2, shi, dec, hix, hld, x0, l2, l3]
    cases hxt : x.t with
    | true =>
      simp (disch := omega) only [sh, sh2, i, shi, dec]
      exact ⟨n, by omega, j + 1, st1, by simp, by omega, sm, fun m hm => hin m (List.mem_cons_of_mem _ hm), k, xs, Sj, hb, nd, w1⟩
    | false =>
      have hbs : st1.bs y = some (x.b, false) := by rw [hb]; simp only [hx, Option.map_some, hxt]
      obtain ⟨h3, nb', ed, S2, f2⟩ := Sj.mdel' (P := Try.prog) (κ := Int) (m := k.bm) (mp := fun n => (bget xs n).map BX.ptr) (n := k.nb) intK 3 rfl ty89 y [3]
      have hK : intK.k y = .int .i64 y := rfl
      rw [hK] at ed
      have hup : upd (fun n => (bget xs n).map BX.ptr) y none = fun m => (bget (rest y xs) m).map BX.ptr := by
        funext m
        rw [bget_rest]
        by_cases hm : m = y
        · subst hm; rw [upd_at]; simp
        · rw [upd_ne _ _ hm, if_neg hm]
      rw [hup] at S2
      have S3 : Sep S g h3 (CTs d c st1.room { k with nb := nb' } st1.d st1.ord (rest y xs) ++ [Thing.vec intE KV st.ord]) := by
        refine S2.sub (List.Sublist.append (l₁ := CTs d c st1.room { k with nb := nb' } st1.d st1.ord (rest y xs)) (l₂ := [DBox d k.Sd st1.d, Thing.cells c (cells8 d st1.room k), Thing.vec intE k.OV st1.ord, Thing.map k.bm intK.k (fun m => (bget (rest y xs) m).map BX.ptr) nb'] ++ xs.flatMap BX.Ts) (.cons₂ _ (.cons₂ _ (.cons₂ _ (.cons₂ _ (sub_flat (rest_sub y xs) _))))) (.refl _))
      simp (disch := omega) only [sh, sh2, i, shi, dec, ed]
      have hle1 := w1.le
      have hr1 := w1.r2
      refine (drop_okZ (by omega) S3 y).mono ?_
      rintro _ h4 ⟨rfl, OV', S4⟩
      obtain ⟨a, b, e1, e2⟩ := filter_split w1.nd hy1
      rw [e2] at S4
      refine ⟨n, by omega, j + 1, st1.gone (a ++ b) y, by simp, by omega, sm.trans (same_gone w1 hbs _), fun m hm => ?_, _, _, S4, bs_gone hb, rest_nd nd, w1.gone e1⟩
      show m ∈ a ++ b
      rw [← e2, List.mem_filter]
      refine ⟨hin m (List.mem_cons_of_mem _ hm), ?_⟩
      have nd2 : (st.ord.drop j).Nodup := w.nd.sublist (List.drop_sublist _ _)
      rw [hd, List.nodup_cons] at nd2
      simpa using fun e : m = y => nd2.1 (e ▸ hm)
end
end Go.Proofs.Ytoajcekgoalhjaa
