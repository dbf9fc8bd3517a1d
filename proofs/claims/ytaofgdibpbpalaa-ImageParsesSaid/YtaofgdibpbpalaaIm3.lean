/-
  parapetref23.Check: it tells the same number of an image as image.Check.
-/
import Derived.Test.YtaofgdibpbpalaaIm2
set_option linter.all false
namespace Go.Proofs.Ytaofgdibpbpalaa
open Go.ChangeShapes Go.WideShapes Go.ChangeAt Go.RowKit Go.Lm
set_option linter.unusedSimpArgs false
set_option maxRecDepth 10000 in
theorem mk128 (h : LHeap) : makeSliceL Try.prog 120 (i 128) (i 128) h = some (.slice h.next 0 128 (.ex 128), h.alloc (.cells ((List.replicate 128 false).map .bool) .ex)) := nr (by kernel_rfl)
set_option maxHeartbeats 1000000 in
theorem refcheck_ok {g : LHeap} {en : Int} {SV ZV : LV} {ss : List (Int × LV)} {segs : List Seg} {zs : List (Int × Int)} (H : Img g SV ZV ss segs zs) :
    Ok Try.prog 42 [.agg [i en, SV, ZV]] g fun v g' => v = i (checkN en segs zs) ∧ Fr noF g g' := by
  refine ok42 fun wf lt => ?_
  have hl := H.lens
  have cS := H.sv.cell
  have cZ := H.zv.cell
  have no : ∀ h : LHeap, Fr noF g h → (16 < segs.length ∨ 16 < zs.length ∨ en < 0 ∨ 65535 < en ∨ en.tmod 4 ≠ 0) → i 230 = i (checkN en segs zs) ∧ Fr noF g h := fun h f hc => ⟨by unfold checkN; rw [if_pos hc], f⟩
  have f1 : Fr noF g (g.alloc (.cells [i en, SV, ZV] .ex)) := Fr.alloc _ _
  by_cases h1 : 16 < segs.length
  · simp (disch := omega) only [F42, J42_0, cS, cZ, shc, i, sh, sh2, shi, dec, b_len, (hl _).1, (hl _).2]
    exact no _ f1 (.inl h1)
  by_cases h2 : 16 < zs.length
  · simp (disch := omega) only [F42, J42_0, cS, cZ, shc, i, sh, sh2, shi, dec, b_len, (hl _).1, (hl _).2]
    exact no _ f1 (.inr (.inl h2))
  by_cases h3 : en < 0
  · simp (disch := omega) only [F42, J42_0, cS, cZ, shc, i, sh, sh2, shi, dec, b_len, (hl _).1, (hl _).2]
    exact no _ f1 (.inr (.inr (.inl h3)))
  by_cases h4 : 65535 < en
  · simp (disch := omega) only [F42, J42_0, cS, cZ, shc, i, sh, sh2, shi, dec, b_len, (hl _).1, (hl _).2]
    exact no _ f1 (.inr (.inr (.inr (.inl h4))))
  by_cases h5 : ¬ en.tmod 4 = 0
  · simp (disch := omega) only [F42, J42_0, cS, cZ, shc, i, sh, sh2, shi, dec, b_len, (hl _).1, (hl _).2, binL_rem_int]
    exact no _ f1 (.inr (.inr (.inr (.inr h5))))
  have h5 := Decidable.not_not.1 h5
  simp (disch := omega) only [F42, J42_0, cS, cZ, shc, i, sh, sh2, shi, dec, b_len, (hl _).1, (hl _).2, binL_rem_int, J42_1, h5]
  rw [show makeSliceL Try.prog 120 (.int .i64 128) (.int .i64 128) _ = _ from mk128 _]
  have hN : checkN en segs zs = chkS segs zs (List.replicate 128 false) (10 + 4 * (segs.length + zs.length)) := by unfold checkN; rw [if_neg (by omega)]
  generalize hg2 : (g.alloc (.cells [.int .i64 en, SV, ZV] .ex)).alloc (.cells ((List.replicate 128 false).map LV.bool) .ex) = h2
  have C0 : CkH g h2 en SV ZV (List.replicate 128 false) := by
    subst hg2
    exact ⟨f1.alloc' _, by simp, by simp, by simp, by simp⟩
  have x1 := C0.im
  simp (disch := omega) only [J42_2, sh, sh2, shi, dec, b_len, hl, x1, J42_3, J42_8, LHeap.next_alloc]
  refine loop_n (fun n s h => ∃ (k : Nat) (bs : List Bool) (size : Int), s = (i size, i (k : Int)) ∧ k + n = segs.length ∧ CkH g h en SV ZV bs ∧ 0 ≤ size ∧ size ≤ 200 + 16384 * (k : Int) ∧ checkN en segs zs = chkS (segs.drop k) zs bs size) (n := segs.length)
    ⟨0, _, _, rfl, by omega, C0, by omega, by omega, by rw [hN, List.drop_zero]; congr 1; omega⟩ ?_
  rintro n s h ⟨k, bs, size, rfl, hk, C, z0, z1, hc⟩
  have x1 := C.im
  cases n with
  | zero =>
    rw [List.drop_of_length_le (by omega)] at hc
    simp (disch := omega) only [L42_9, J42_4, J42_6, sh, sh2, shi, dec, b_len, hl, x1]
    refine loop_n (fun n s h => ∃ (k : Nat) (bs : List Bool), s = i (k : Int) ∧ k + n = zs.length ∧ CkH g h en SV ZV bs ∧ checkN en segs zs = chkZ (zs.drop k) bs size) (n := zs.length) ⟨0, bs, rfl, by omega, C, by rw [hc]; rfl⟩ ?_
    rintro n s h ⟨k, bs, rfl, hk, C, hc⟩
    have x1 := C.im
    cases n with
    | zero =>
      rw [List.drop_of_length_le (by omega)] at hc
      by_cases hz : 16384 < size
      · simp (disch := omega) only [L42_7, J42_5, i, sh, sh2, shi, dec, b_len, hl, x1]
        exact ⟨by rw [hc]; simp only [chkZ, if_pos hz], C.fr⟩
      · simp (disch := omega) only [L42_7, J42_5, i, sh, sh2, shi, dec, b_len, hl, x1]
        exact ⟨by rw [hc]; simp only [chkZ, if_neg hz], C.fr⟩
    | succ n =>
      obtain ⟨t, ht, hd⟩ := drop_at (l := zs) (k := k) (by omega)
      have hix := H.zv.ix (k := .i64) (i := k) (by omega)
      obtain ⟨pa, po, hat, hfl⟩ := (H.zv.up wf C.fr fun _ _ => id).fl ht
      have hl0 : cellO none po (h.get pa) = some (i t.1) := hfl 0 _ rfl
      have hl1 : cellO none (po + 1) (h.get pa) = some (i t.2) := hfl 1 _ rfl
      have e2 : zE.e = 2 := rfl
      rw [e2] at hix hat
      simp (disch := omega) only [L42_7, i, sh, sh2, shc, shi, dec, hix, hat, hl0, hl1, b_len, hl, x1]
      refine (marks_ok C.seen C.len).mono ?_
      rintro _ _ ⟨rfl, rfl⟩
      rw [hd] at hc
      cases hr : (reachB t.1 t.2 bs).1 with
      | true =>
        simp (disch := omega) only [sh, sh2, shi, dec]
        exact ⟨n, by omega, k + 1, (reachB t.1 t.2 bs).2, by simp, by omega, C.mark, by rw [hc]; simp only [chkZ, hr, if_true]⟩
      | false =>
        simp (disch := omega) only [sh, sh2, shi, dec]
        exact ⟨by rw [hc]; simp [chkZ, hr], C.mark.fr⟩
  | succ n =>
    obtain ⟨t, ht, hd⟩ := drop_at (l := segs) (k := k) (by omega)
    obtain ⟨⟨a0, V⟩, hs, rfl, hV⟩ := H.sb.get ht
    have hix := H.sv.ix (k := .i64) (i := k) (by rw [H.sb.len]; omega)
    have hld := (H.sv.up wf C.fr fun _ _ => id).ld hs
    have e2 : segE.e = 2 := rfl
    have cV := hV.cell
    have hlen := hV.len ty.2.2
    rw [e2] at hix hld
    simp only [segE, cV, if_true] at hld
    have C2 := C.alloc (.cells [i t.1, V] .ex)
    rw [hd] at hc
    have no : ∀ h', Fr noF g h' → (t.1 < 0 ∨ t.1.tmod 256 ≠ 0 ∨ (16384 : Int) < t.2.length ∨ (reachB (page t.1) (pagesN t.2.length) bs).1 = false) → i 230 = i (checkN en segs zs) ∧ Fr noF g h' := fun h' f hx => by
      refine ⟨?_, f⟩
      rw [hc]
      unfold chkS
      split
      · rfl
      · rename_i hn
        rcases hx with hx | hx | hx | hx
        · exact absurd (.inl hx) hn
        · exact absurd (.inr (.inl hx)) hn
        · exact absurd (.inr (.inr hx)) hn
        · simp [hx]
    have hp : IntKind.i64.wrap (t.1.tdiv 256) = page t.1 := rfl
    by_cases h1 : t.1 < 0
    · simp (disch := omega) only [L42_9, i, sh, sh2, shc, shi, dec, hix, hld, cV, x1, b_len, hl]
      exact no _ C2.fr (.inl h1)
    by_cases h2 : ¬ t.1.tmod 256 = 0
    · simp (disch := omega) only [L42_9, i, sh, sh2, shc, shi, dec, hix, hld, cV, x1, b_len, hl, binL_rem_int]
      exact no _ C2.fr (.inr (.inl h2))
    have h2 := Decidable.not_not.1 h2
    by_cases h6 : (t.2.length : Int) < 1
    · simp (disch := omega) only [L42_9, i, sh, sh2, shc, shi, dec, hix, hld, cV, x1, b_len, hl, binL_rem_int, h2, hlen]
      exact no _ C2.fr (.inr (.inr (.inr (by unfold reachB; rw [if_pos (.inr (.inl (by unfold pagesN; omega)))]))))
    by_cases h3 : (16384 : Int) < t.2.length
    · simp (disch := omega) only [L42_9, i, sh, sh2, shc, shi, dec, hix, hld, cV, x1, b_len, hl, binL_rem_int, h2, hlen]
      exact no _ C2.fr (.inr (.inr (.inl h3)))
    have hq : ((t.2.length : Int) + 255).tdiv 256 = pagesN t.2.length := Int.tdiv_eq_ediv_of_nonneg (by omega)
    have hw : IntKind.i64.wrap (pagesN t.2.length) = pagesN t.2.length := wrap_in (by unfold pagesN; omega) (by unfold pagesN; omega)
    simp (disch := omega) only [L42_9, i, sh, sh2, shc, shi, dec, hix, hld, cV, x1, b_len, hl, binL_rem_int, binL_quo_int, h2, hlen, hp, hq, hw]
    refine (marks_ok C2.seen C2.len).mono ?_
    rintro _ _ ⟨rfl, rfl⟩
    have hg : ((h.alloc (.cells [i t.1, V] .ex)).set (g.next + 1) (.cells ((reachB (page t.1) (pagesN t.2.length) bs).2.map .bool) .ex)).get h.next = some (.cells [i t.1, V] .ex) := by
      have := C.nx
      rw [get_set_ne _ _ (by omega), get_alloc_eq]
    cases hr : (reachB (page t.1) (pagesN t.2.length) bs).1 with
    | true =>
      simp (disch := omega) only [i, sh, sh2, shc, shi, dec, hg, b_len, hlen]
      refine ⟨n, by omega, k + 1, (reachB (page t.1) (pagesN t.2.length) bs).2, size + t.2.length, by simp, by omega, C2.mark, by omega, by omega, ?_⟩
      rw [hc]
      rw [chkS, if_neg (by omega), if_pos hr]
    | false =>
      simp (disch := omega) only [i, sh, sh2, shc, shi, dec, hg, b_len, hlen]
      exact no _ C2.mark.fr (.inr (.inr (.inr hr)))
end Go.Proofs.Ytaofgdibpbpalaa
