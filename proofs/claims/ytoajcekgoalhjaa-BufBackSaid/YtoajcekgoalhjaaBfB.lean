/-
  buf: Dirty, Forget, New.
-/
import Derived.Test.YtoajcekgoalhjaaBfA
set_option linter.all false
namespace Go.Proofs.Ytoajcekgoalhjaa
open Go.ChangeShapes Go.WideShapes Go.ChangeAt Go.RowKit Go.Lm
set_option linter.unusedSimpArgs false
set_option maxRecDepth 10000
theorem bl91 (d om : Nat) (r : Int) : buildL Try.prog 91 [(0, .ptr d 0), (1, .int .i64 r), (2, .map om)] = some (.agg [.ptr d 0, .int .i64 r, .map om, .nils, .int .i64 0, .int .i64 0, .int .i64 0, .int .i64 0]) := nr (by kernel_rfl)
section
variable {F : Nat → Prop} {g h h' : LHeap} {d c : Nat} {room : Int} {k : CC} {ds : DSt} {ord : List Int} {xs : List BX} {Zs : List Thing} {st : CSt} {S : Nat → Prop}
theorem CAt.of (Sp : Sep F g h (CBox d c S st :: Zs)) : CAt F g h d c st Zs := by
  obtain ⟨k, xs, S1, hb, nd, w⟩ := CAt.of_box (Sp.at (T := CBox d c S st) 0 rfl) (Sp.boxlt (D := CD d c) (S := S) (x := st) 0 rfl)
  rw [List.append_nil] at S1
  exact ⟨k, xs, Sp.callF (T := CBox d c S st) rfl S1, hb, nd, w⟩
theorem dty_x (hb : st.bs = fun n => (bget xs n).map fun x => (x.b, x.t)) {n : Int} {x : BX} (hx : bget xs n = some x) : st.dty n = x.t := by
  simp [CSt.dty, hb, hx]
theorem CDirty_ok (B : (CBox d c S st).ok g) (lt : ∀ a, S a → a < g.next) : Ok Try.prog 34 [.ptr c 0] g fun V h => ∃ l S', V.cell = true ∧ l.Nodup ∧ (∀ n, n ∈ l ↔ st.dty n = true) ∧ l.length ≤ 1024 ∧ Sep S g h [CBox d c S' st, Thing.vec intE V l] := by
  refine ok34 fun wf _ => ?_
  simp (disch := omega) only [F34, J34_0, J34_1]
  refine (CKept_ok B lt).mono ?_
  rintro KV h0 ⟨w, cK, S0⟩
  have hle := w.le
  have hr2 := w.r2
  obtain ⟨k, xs, S1, hb, nd, _⟩ := CAt.of S0
  have S2 := S1.nils intE
  have hl := (S0.row (V := KV) (E := intE) (l := st.ord) 1 rfl).len (P := Try.prog) ty50
  have len0 : (CTs d c st.room k st.d st.ord xs ++ [Thing.vec intE KV st.ord]).length = 4 + (xs.flatMap BX.Ts).length + 1 := by simp [CTs]; omega
  simp (disch := omega) only [J34_3, i, sh, sh2, b_len, hl]
  refine loop_n (fun n s h => ∃ (j : Nat) (O : LV), s = (O, i (j : Int)) ∧ j + n = st.ord.length ∧ Sep S g h (CTs d c st.room k st.d st.ord xs ++ [Thing.vec intE KV st.ord] ++ [Thing.vec intE O ((st.ord.take j).filter st.dty)])) (n := st.ord.length) ⟨0, .nils, rfl, by omega, by simpa using S2⟩ ?_
  rintro n s h ⟨j, O, rfl, hj, Sj⟩
  cases n with
  | zero =>
    have ej : st.ord.take j = st.ord := List.take_of_length_le (by omega)
    rw [ej] at Sj
    simp (disch := omega) only [L34_4, J34_2, i, sh, sh2, shi, dec]
    obtain ⟨R, G, M⟩ := Sj.at (T := Thing.vec intE O (st.ord.filter st.dty)) _ last_at
    have hfl : (st.ord.filter st.dty).length ≤ st.ord.length := List.length_filter_le _ _
    refine (sort_ok sort66 R M (by omega)).mono ?_
    rintro _ h9 ⟨rfl, R9, M9, G9, f9, n9⟩
    have S9 := Sj.put (T := Thing.vec intE O (st.ord.filter st.dty)) _ last_at (Thing.vec intE O (sorted (st.ord.filter st.dty))) f9 ⟨R9, G9 G, M9⟩ fun a ha => ⟨.inl ha, by rw [n9]; exact Sj.lt (T := Thing.vec intE O (st.ord.filter st.dty)) _ last_at ha⟩
    rw [set_last] at S9
    have A : CAt S g h9 d c st ([Thing.vec intE KV st.ord] ++ [Thing.vec intE O (sorted (st.ord.filter st.dty))]) := ⟨k, xs, by rw [← List.append_assoc]; exact S9, hb, nd, w⟩
    obtain ⟨S', S10⟩ := A.to_box
    refine ⟨sorted (st.ord.filter st.dty), S', R9.cell, (Go.Lm.sorted_perm _).nodup_iff.2 (w.nd.sublist List.filter_sublist), fun n => ?_, by rw [sorted_len]; omega, S10.sub (.cons₂ _ (.cons _ (.refl _)))⟩
    rw [(Go.Lm.sorted_perm _).mem_iff, List.mem_filter, w.mem]
    refine ⟨fun h => h.2, fun h => ⟨?_, h⟩⟩
    cases hbn : st.bs n with
    | none => simp [CSt.dty, hbn] at h
    | some p => rfl
  | succ n =>
    obtain ⟨y, hy⟩ : ∃ y, st.ord[j]? = some y := ⟨st.ord[j]'(by omega), List.getElem?_eq_getElem (by omega)⟩
    obtain ⟨x, hx⟩ := mem_x hb w y (List.mem_of_getElem? hy)
    have Sj' : Sep S g h (CTs d c st.room k st.d st.ord xs ++ ([Thing.vec intE KV st.ord] ++ [Thing.vec intE O ((st.ord.take j).filter st.dty)])) := by rw [← List.append_assoc]; exact Sj
    have iK : (CTs d c st.room k st.d st.ord xs ++ [Thing.vec intE KV st.ord])[(CTs d c st.room k st.d st.ord xs).length]? = some (Thing.vec intE KV st.ord) := last_at
    have RK := Sj.init.row _ iK
    have hix := RK.ix (k := .i64) (i := j) (by omega)
    have hld := RK.ld1 hy rfl rfl
    have he : intE.e = 1 := rfl
    rw [he] at hix
    have x0 := Sj'.cell (a := c) (vs := cells8 d st.room k) 1 rfl
    obtain ⟨_, l2, l3, _⟩ := blk_at (CTs_left Sj') hx
    have htk : (st.ord.take (j + 1)).filter st.dty = (st.ord.take j).filter st.dty ++ (if x.t = true then [y] else []) := by
      rw [take_snoc hy, List.filter_append, List.filter_cons, dty_x hb hx]
      cases x.t <;> rfl
    simp only [i, cells8] at x0
    simp (disch := omega) only [L34_4, i, sh, sh2, shi, dec, hix, hld, x0, l2, l3]
    cases hxt : x.t with
    | false =>
      simp (disch := omega) only [sh, sh2, i, shi, dec]
      refine ⟨n, by omega, j + 1, O, by simp, by omega, ?_⟩
      rw [htk, hxt]
      simpa using Sj
    | true =>
      have hfl : ((st.ord.take j).filter st.dty).length ≤ st.ord.length := Nat.le_trans (List.length_filter_le _ _) (by rw [List.length_take]; omega)
      obtain ⟨O', h2, ea, S3, cO, _, _⟩ := Sj.push (V := O) (E := intE) (l := (st.ord.take j).filter st.dty) _ last_at (bytes := 8) y (cs := [i y]) rfl (by omega)
      rw [set_last] at S3
      have hap := ap50 (V := O) (U := .slice h.next 0 1 (.ex 1)) rfl (h.alloc (.cells [i y] .ex))
      rw [he] at ea
      rw [ea] at hap
      have hbs := bs50 h y
      simp only [i] at hap hbs
      simp (disch := omega) only [sh, sh2, i, shi, dec, hbs, hap]
      refine ⟨n, by omega, j + 1, O', by simp, by omega, ?_⟩
      rw [htk, hxt, if_pos rfl]
      exact S3
theorem CNew_ok {ds : DSt} {Sd : Nat → Prop} (Sp : Sep F g h (DBox d Sd ds :: Zs)) (r : Int) : Ok Try.prog 12 [.ptr d 0, i r] h fun v h' =>
    (v = .tuple [.nilp, i 1] ∧ ¬ (1 ≤ r ∧ r ≤ 1024) ∧ h' = h) ∨
    ((1 ≤ r ∧ r ≤ 1024) ∧ ∃ c S', v = .tuple [.ptr c 0, i 0] ∧ Sep F g h' (CBox d c S' ⟨r, ds, [], fun _ => none⟩ :: Zs)) := by
  refine ok12 fun wf _ => ?_
  have dw : DWf ds := by
    obtain ⟨Ts, ⟨_, _, _, _, dw⟩, _⟩ := Sp.at (T := DBox d Sd ds) 0 rfl
    exact dw
  by_cases h1 : 1 ≤ r
  rotate_left
  · simp (disch := omega) only [F12, i, sh, sh2, shi, dec, nil_p ty23 true]
    exact .inl ⟨trivial, by omega, trivial⟩
  by_cases h2 : r ≤ 1024
  rotate_left
  · simp (disch := omega) only [F12, i, sh, sh2, shi, dec, nil_p ty23 true]
    exact .inl ⟨trivial, by omega, trivial⟩
  have S1 := Sp.newMap (κ := Int) intK.k
  have S2 := S1.new [.ptr d 0, i r, .map h.next, .nils, i 0, i 0, i 0, i 0]
  have S3 := S2.nils intE
  simp (disch := omega) only [F12, i, sh, sh2, shc, shi, dec, nil_p ty23 true, bl91, LHeap.next_alloc]
  refine .inr ⟨⟨h1, h2⟩, h.next + 1, ?_⟩
  simp only [LHeap.next_alloc] at S3
  have A : CAt F g ((h.alloc (.map [] 0 .ex)).alloc (.cells [.ptr d 0, i r, .map h.next, .nils, i 0, i 0, i 0, i 0] .ex)) d (h.next + 1) ⟨r, ds, [], fun _ => none⟩ Zs := by
    refine ⟨⟨Sd, h.next, .nils, 0, 0, 0, 0, 0⟩, [], ?_, rfl, List.nodup_nil, dw, h1, h2, List.nodup_nil, by simp; omega, fun n => by simp, fun n b t h => by cases h⟩
    refine S3.perm ?_
    show List.Perm ([DBox d Sd ds] ++ Zs ++ [Thing.map h.next intK.k (fun _ => none) 0] ++ [Thing.cells (h.next + 1) [.ptr d 0, i r, .map h.next, .nils, i 0, i 0, i 0, i 0]] ++ [Thing.vec intE .nils []])
      ([DBox d Sd ds] ++ ([Thing.cells (h.next + 1) [.ptr d 0, i r, .map h.next, .nils, i 0, i 0, i 0, i 0], Thing.vec intE .nils [], Thing.map h.next intK.k (fun _ => none) 0] ++ Zs))
    rw [List.append_assoc, List.append_assoc, List.append_assoc]
    refine List.Perm.append_left _ ?_
    refine List.perm_append_comm.trans (List.Perm.append_right Zs ?_)
    refine .trans (.swap _ _ _) (.cons _ (.swap _ _ _))
  obtain ⟨S', S4⟩ := A.to_box
  exact ⟨S', rfl, S4⟩
end
end Go.Proofs.Ytoajcekgoalhjaa
