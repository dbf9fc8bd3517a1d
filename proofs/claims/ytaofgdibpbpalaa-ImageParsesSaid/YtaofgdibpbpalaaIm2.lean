/-
  image.Check and parapetref23.Check: both tell the same number of an image.
-/
import Derived.Test.YtaofgdibpbpalaaIm1
import Derived.Test.YtaofgdibpbpalaaLm5x
set_option linter.all false
namespace Go.Proofs.Ytaofgdibpbpalaa
open Go.ChangeShapes Go.WideShapes Go.ChangeAt Go.RowKit Go.Lm
set_option linter.unusedSimpArgs false
def segE : Enc (Int × LV) := ⟨fun s => [i s.1, if s.2.cell then s.2 else .nils], 2, fun _ => rfl, fun s v h => by
  simp only [List.mem_cons, List.not_mem_nil, or_false] at h
  rcases h with rfl | rfl
  · rfl
  · split
    · assumption
    · rfl, by decide⟩
def zE : Enc (Int × Int) := ⟨fun s => [i s.1, i s.2], 2, fun _ => rfl, fun s v h => by
  simp only [List.mem_cons, List.not_mem_nil, or_false] at h
  rcases h with rfl | rfl <;> rfl, by decide⟩
abbrev Seg := Int × List Int
def SegR (g : LHeap) (s : Int × LV) (t : Seg) : Prop := s.1 = t.1 ∧ Row g s.2 byteE t.2
structure Img (g : LHeap) (SV ZV : LV) (ss : List (Int × LV)) (segs : List Seg) (zs : List (Int × Int)) : Prop where
  sv : Row g SV segE ss
  sb : All2 (SegR g) ss segs
  zv : Row g ZV zE zs
theorem Img.up {g g' : LHeap} {SV ZV : LV} {ss : List (Int × LV)} {segs : List Seg} {zs : List (Int × Int)} (h : Img g SV ZV ss segs zs) (wf : g.Wf) (f : Fr noF g g') : Img g' SV ZV ss segs zs :=
  ⟨h.sv.up wf f (fun _ _ => id), h.sb.mono fun _ _ h => ⟨h.1, h.2.up wf f (fun _ _ => id)⟩, h.zv.up wf f (fun _ _ => id)⟩
def chkZ : List (Int × Int) → List Bool → Int → Int
  | [], _, size => if 16384 < size then 230 else 0
  | z :: r, bs, size => if (reachB z.1 z.2 bs).1 = true then chkZ r (reachB z.1 z.2 bs).2 size else 230
def page (a : Int) : Int := IntKind.i64.wrap (a.tdiv 256)
def chkS : List Seg → List (Int × Int) → List Bool → Int → Int
  | [], zs, bs, size => chkZ zs bs size
  | s :: r, zs, bs, size => if s.1 < 0 ∨ s.1.tmod 256 ≠ 0 ∨ (16384 : Int) < s.2.length then 230 else
    if (reachB (page s.1) (pagesN s.2.length) bs).1 = true then chkS r zs (reachB (page s.1) (pagesN s.2.length) bs).2 (size + s.2.length) else 230
def checkN (en : Int) (segs : List Seg) (zs : List (Int × Int)) : Int :=
  if 16 < segs.length ∨ 16 < zs.length ∨ en < 0 ∨ 65535 < en ∨ en.tmod 4 ≠ 0 then 230 else chkS segs zs (List.replicate 128 false) (10 + 4 * (segs.length + zs.length))
theorem ty : Try.prog.underlying 24 = some (.slice 92) ∧ Try.prog.underlying 25 = some (.slice 94) ∧ Try.prog.underlying 23 = some (.slice 5) := ⟨by kernel_rfl, by kernel_rfl, by kernel_rfl⟩
theorem Img.lens {g : LHeap} {SV ZV : LV} {ss : List (Int × LV)} {segs : List Seg} {zs : List (Int × Int)} (h : Img g SV ZV ss segs zs) (g' : LHeap) : lenL Try.prog 24 SV g' = some (i segs.length) ∧ lenL Try.prog 25 ZV g' = some (i zs.length) :=
  ⟨by rw [h.sv.len ty.1, h.sb.len], h.zv.len ty.2.1 g'⟩
/-- The heap in which Check looks: the image's copy, the pages that are marked. -/
structure CkH (g h : LHeap) (en : Int) (SV ZV : LV) (bs : List Bool) : Prop where
  fr : Fr noF g h
  im : h.get g.next = some (.cells [i en, SV, ZV] .ex)
  seen : h.get (g.next + 1) = some (.cells (bs.map .bool) .ex)
  nx : g.next + 2 ≤ h.next
  len : bs.length = 128
theorem CkH.alloc {g h : LHeap} {en : Int} {SV ZV : LV} {bs : List Bool} (C : CkH g h en SV ZV bs) (o : LObj) : CkH g (h.alloc o) en SV ZV bs := by
  have := C.nx
  exact ⟨C.fr.alloc' o, by rw [get_alloc_ne h o (by omega)]; exact C.im, by rw [get_alloc_ne h o (by omega)]; exact C.seen, by simp only [LHeap.next_alloc]; omega, C.len⟩
theorem CkH.mark {g h : LHeap} {en : Int} {SV ZV : LV} {bs : List Bool} (C : CkH g h en SV ZV bs) {f c : Int} : CkH g (h.set (g.next + 1) (.cells ((reachB f c bs).2.map .bool) .ex)) en SV ZV (reachB f c bs).2 :=
  ⟨C.fr.set' _ (.inl (by omega)), by rw [get_set_ne h _ (by omega)]; exact C.im, get_set_eq _ _ _, C.nx, by rw [reachB_len]; exact C.len⟩
theorem new_agg2 {x y : LV} (g : LHeap) (hx : x.cell = true) (hy : y.cell = true) : newL (.agg [x, y]) g = some (.ptr g.next 0, g.alloc (.cells [x, y] .ex)) := new_agg _ _ (by simp [hx, hy])
set_option maxHeartbeats 1000000 in
theorem check_ok {g : LHeap} {en : Int} {SV ZV : LV} {ss : List (Int × LV)} {segs : List Seg} {zs : List (Int × Int)} (H : Img g SV ZV ss segs zs) :
    Ok Try.prog 41 [.agg [i en, SV, ZV]] g fun v g' => v = i (checkN en segs zs) ∧ Fr noF g g' := by
  refine ok41 fun wf lt => ?_
  have hl := H.lens
  have cS := H.sv.cell
  have cZ := H.zv.cell
  have hnew : newL (.agg [i en, SV, ZV]) g = some (.ptr g.next 0, g.alloc (.cells [i en, SV, ZV] .ex)) := new_agg _ _ (by simp [cS, cZ, i, cell_int])
  have no : ∀ h : LHeap, Fr noF g h → (16 < segs.length ∨ 16 < zs.length ∨ en < 0 ∨ 65535 < en ∨ en.tmod 4 ≠ 0) → i 230 = i (checkN en segs zs) ∧ Fr noF g h := fun h f hc => ⟨by unfold checkN; rw [if_pos hc], f⟩
  have f1 : Fr noF g (g.alloc (.cells [i en, SV, ZV] .ex)) := Fr.alloc _ _
  by_cases h1 : 16 < segs.length
  · simp (disch := omega) only [F41, J41_0, hnew, sh, sh2, shi, dec, b_len, (hl _).1, (hl _).2]
    exact no _ f1 (.inl h1)
  by_cases h2 : 16 < zs.length
  · simp (disch := omega) only [F41, J41_0, hnew, sh, sh2, shi, dec, b_len, (hl _).1, (hl _).2]
    exact no _ f1 (.inr (.inl h2))
  by_cases h3 : en < 0
  · simp (disch := omega) only [F41, J41_0, hnew, sh, sh2, shi, dec, b_len, (hl _).1, (hl _).2]
    exact no _ f1 (.inr (.inr (.inl h3)))
  by_cases h4 : 65535 < en
  · simp (disch := omega) only [F41, J41_0, hnew, sh, sh2, shi, dec, b_len, (hl _).1, (hl _).2]
    exact no _ f1 (.inr (.inr (.inr (.inl h4))))
  by_cases h5 : ¬ en.tmod 4 = 0
  · simp (disch := omega) only [F41, J41_0, hnew, sh, sh2, shi, dec, b_len, (hl _).1, (hl _).2, binL_rem_int]
    exact no _ f1 (.inr (.inr (.inr (.inr h5))))
  have h5 := Decidable.not_not.1 h5
  simp (disch := omega) only [F41, J41_0, hnew, sh, sh2, shi, dec, b_len, (hl _).1, (hl _).2, binL_rem_int, J41_1]
  refine oK_i (new_agg ((List.replicate 128 false).map LV.bool) _ (by simp [cell_bool])) ?_
  have hN : checkN en segs zs = chkS segs zs (List.replicate 128 false) (10 + 4 * (segs.length + zs.length)) := by unfold checkN; rw [if_neg (by omega)]
  generalize hg2 : (g.alloc (.cells [i en, SV, ZV] .ex)).alloc (.cells ((List.replicate 128 false).map LV.bool) .ex) = h2
  have C0 : CkH g h2 en SV ZV (List.replicate 128 false) := by
    subst hg2
    exact ⟨f1.alloc' _, by simp, by simp, by simp, by simp⟩
  have x1 := C0.im
  simp (disch := omega) only [J41_2, sh, sh2, shi, dec, b_len, hl, x1, J41_3, J41_8, LHeap.next_alloc]
  refine loop_n (fun n s h => ∃ (k : Nat) (bs : List Bool) (size : Int), s = (i size, i (k : Int)) ∧ k + n = segs.length ∧ CkH g h en SV ZV bs ∧ 0 ≤ size ∧ size ≤ 200 + 16384 * (k : Int) ∧ checkN en segs zs = chkS (segs.drop k) zs bs size) (n := segs.length)
    ⟨0, _, _, rfl, by omega, C0, by omega, by omega, by rw [hN]; simp⟩ ?_
  rintro n s h ⟨k, bs, size, rfl, hk, C, z0, z1, hc⟩
  have x1 := C.im
  cases n with
  | zero =>
    rw [List.drop_of_length_le (by omega)] at hc
    simp (disch := omega) only [L41_9, J41_10, J41_4, J41_6, sh, sh2, shi, dec, b_len, hl, x1]
    refine loop_n (fun n s h => ∃ (k : Nat) (bs : List Bool), s = i (k : Int) ∧ k + n = zs.length ∧ CkH g h en SV ZV bs ∧ checkN en segs zs = chkZ (zs.drop k) bs size) (n := zs.length) ⟨0, bs, rfl, by omega, C, by rw [hc]; rfl⟩ ?_
    rintro n s h ⟨k, bs, rfl, hk, C, hc⟩
    cases n with
    | zero =>
      rw [List.drop_of_length_le (by omega)] at hc
      by_cases hz : 16384 < size
      · simp (disch := omega) only [L41_7, J41_5, i, sh, sh2, shi, dec]
        exact ⟨by rw [hc]; simp only [chkZ, if_pos hz], C.fr⟩
      · simp (disch := omega) only [L41_7, J41_5, i, sh, sh2, shi, dec]
        exact ⟨by rw [hc]; simp only [chkZ, if_neg hz], C.fr⟩
    | succ n =>
      obtain ⟨t, ht, hd⟩ := drop_at (l := zs) (k := k) (by omega)
      have hix := H.zv.ix (k := .i64) (i := k) (by omega)
      have hld := (H.zv.up wf C.fr fun _ _ => id).ld ht
      have e2 : zE.e = 2 := rfl
      rw [e2] at hix hld
      simp only [zE] at hld
      simp (disch := omega) only [L41_7, i, sh, sh2, shc, shi, dec, hix, hld]
      have C2 := C.alloc (.cells [i t.1, i t.2] .ex)
      refine (reach_ok C2.seen C.len).mono ?_
      rintro _ _ ⟨rfl, rfl⟩
      rw [hd] at hc
      cases hr : (reachB t.1 t.2 bs).1 with
      | true =>
        simp (disch := omega) only [sh, sh2, shi, dec]
        exact ⟨n, by omega, k + 1, (reachB t.1 t.2 bs).2, by simp, by omega, C2.mark, by rw [hc]; simp only [chkZ, hr, if_true]⟩
      | false =>
        simp (disch := omega) only [sh, sh2, shi, dec]
        exact ⟨by rw [hc]; simp [chkZ, hr], C2.mark.fr⟩
  | succ n =>
    obtain ⟨t, ht, hd⟩ := drop_at (l := segs) (k := k) (by omega)
    obtain ⟨⟨a0, V⟩, hs, rfl, hV⟩ := H.sb.get ht
    have hix := H.sv.ix (k := .i64) (i := k) (by rw [H.sb.len]; omega)
    have hld := (H.sv.up wf C.fr fun _ _ => id).ld hs
    have e2 : segE.e = 2 := rfl
    have cV := hV.cell
    have hlen := hV.len ty.2.2
    rw [e2] at hix hld
    simp only [segE, cV, if_true] at hld
    have C2 := C.alloc (.cells [i t.1, V] .ex)
    rw [hd] at hc
    have no : ∀ h', Fr noF g h' → (t.1 < 0 ∨ t.1.tmod 256 ≠ 0 ∨ (16384 : Int) < t.2.length ∨ (reachB (page t.1) (pagesN t.2.length) bs).1 = false) → i 230 = i (checkN en segs zs) ∧ Fr noF g h' := fun h' f hx => by
      refine ⟨?_, f⟩
      rw [hc]
      unfold chkS
      split
      · rfl
      · rename_i hn
        rcases hx with hx | hx | hx | hx
        · exact absurd (.inl hx) hn
        · exact absurd (.inr (.inl hx)) hn
        · exact absurd (.inr (.inr hx)) hn
        · simp [hx]
    have hp : IntKind.i64.wrap (t.1.tdiv 256) = page t.1 := rfl
    by_cases h1 : t.1 < 0
    · simp (disch := omega) only [L41_9, J41_10, J41_11, J41_13, i, sh, sh2, shc, shi, dec, hix, hld, cV]
      exact no _ C2.fr (.inl h1)
    by_cases h2 : ¬ t.1.tmod 256 = 0
    · simp (disch := omega) only [L41_9, J41_10, J41_11, J41_13, i, sh, sh2, shc, shi, dec, hix, hld, cV, binL_rem_int]
      exact no _ C2.fr (.inr (.inl h2))
    have h2 := Decidable.not_not.1 h2
    by_cases h3 : (16384 : Int) < t.2.length
    · simp (disch := omega) only [L41_9, J41_10, J41_11, J41_13, i, sh, sh2, shc, shi, dec, hix, hld, cV, binL_rem_int, h2, hlen]
      exact no _ C2.fr (.inr (.inr (.inl h3)))
    simp (disch := omega) only [L41_9, J41_10, J41_11, J41_13, i, sh, sh2, shc, shi, dec, hix, hld, cV, binL_rem_int, binL_quo_int, h2, hlen, hp]
    refine (pages_ok (by omega) (by omega)).mono ?_
    rintro _ _ ⟨rfl, rfl⟩
    simp (disch := omega) only [i, sh, sh2, shc, shi, dec]
    refine (reach_ok C2.seen C2.len).mono ?_
    rintro _ _ ⟨rfl, rfl⟩
    have hg : ((h.alloc (.cells [i t.1, V] .ex)).set (g.next + 1) (.cells ((reachB (page t.1) (pagesN t.2.length) bs).2.map .bool) .ex)).get h.next = some (.cells [i t.1, V] .ex) := by
      have := C.nx
      rw [get_set_ne _ _ (by omega), get_alloc_eq]
    cases hr : (reachB (page t.1) (pagesN t.2.length) bs).1 with
    | true =>
      simp (disch := omega) only [J41_14, J41_12, i, sh, sh2, shc, shi, dec, hg, b_len, hlen]
      refine ⟨n, by omega, k + 1, (reachB (page t.1) (pagesN t.2.length) bs).2, size + t.2.length, by simp, by omega, C2.mark, by omega, by omega, ?_⟩
      rw [hc]
      rw [chkS, if_neg (by omega), if_pos hr]
    | false =>
      simp (disch := omega) only [J41_14, J41_12, i, sh, sh2, shc, shi, dec, hg, b_len, hlen]
      exact no _ C2.mark.fr (.inr (.inr (.inr hr)))
end Go.Proofs.Ytaofgdibpbpalaa
