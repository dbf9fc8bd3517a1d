/-
  image.Pages and parapetref23.Pages: how many pages an image has.
-/
import Derived.Test.YtaofgdibpbpalaaImA
set_option linter.all false
namespace Go.Proofs.Ytaofgdibpbpalaa
open Go.ChangeShapes Go.WideShapes Go.ChangeAt Go.RowKit Go.Lm
set_option linter.unusedSimpArgs false
def reg (s : Seg) : Int × Int := (page s.1, pagesN s.2.length)
def sumZ : List (Int × Int) → Int
  | [] => 0
  | z :: r => z.2 + sumZ r
theorem sumZ_snoc (l : List (Int × Int)) (z : Int × Int) : sumZ (l ++ [z]) = sumZ l + z.2 := by
  induction l with
  | nil => simp [sumZ]
  | cons x l ih => simp only [List.cons_append, sumZ, ih]; omega
theorem sumZ_app (l m : List (Int × Int)) : sumZ (l ++ m) = sumZ l + sumZ m := by
  induction l with
  | nil => simp [sumZ]
  | cons x l ih => simp only [List.cons_append, sumZ, ih]; omega
theorem sumZ_bound : ∀ {l : List (Int × Int)} {k : Nat}, l.length ≤ k → (∀ z ∈ l, 0 ≤ z.2 ∧ z.2 ≤ 2 ^ 20) → 0 ≤ sumZ l ∧ sumZ l ≤ 2 ^ 20 * (k : Int)
  | [], k, _, _ => by simp only [sumZ]; omega
  | z :: l, k, hk, h => by
    have h1 := h z (by simp)
    have h2 := sumZ_bound (l := l) (k := k - 1) (by simp only [List.length_cons] at hk; omega) fun z hz => h z (by simp [hz])
    simp only [List.length_cons] at hk
    simp only [sumZ]
    omega
theorem take_snoc {A : Type} {l : List A} {k : Nat} {x : A} (h : l[k]? = some x) : l.take (k + 1) = l.take k ++ [x] := by rw [List.take_add_one, h]; rfl
def pagesOf (en : Int) (segs : List Seg) (zs : List (Int × Int)) : Int := if checkN en segs zs = 0 then sumZ (segs.map reg ++ zs) else 0
theorem hcp3 (x y z : LV) : cellO (some 3) 0 (some (.cells [x, y, z] .ex)) = some (.agg [x, y, z]) := rfl
theorem ap25u {V U : LV} (hU : U.isStr = false) (g : LHeap) : builtinL Try.prog .append [25, 25] [V, U] g = appendL 2 16 V U g := append_ok (by kernel_rfl) hU g
structure RgH (g h : LHeap) (en : Int) (SV ZV V : LV) (rs : List (Int × Int)) : Prop where
  fr : Lo g.next g h
  im : h.get g.next = some (.cells [i en, SV, ZV] .ex)
  vec : Vec zE (g.next + 1) h V rs
  nx : g.next < h.next
theorem RgH.up {g h h' : LHeap} {en : Int} {SV ZV V : LV} {rs : List (Int × Int)} (C : RgH g h en SV ZV V rs) (f : Fr noF h h') : RgH g h' en SV ZV V rs :=
  ⟨C.fr.trans (f.mono fun _ _ => False.elim), (f.eq _ C.nx id).trans C.im, C.vec.up f fun _ _ => id, Nat.lt_of_lt_of_le C.nx f.le⟩
theorem RgH.app {g h : LHeap} {en : Int} {SV ZV V U : LV} {rs us : List (Int × Int)} (C : RgH g h en SV ZV V rs) (R : Row h U zE us) (hb : rs.length + us.length ≤ 2 ^ 30) :
    ∃ V' h', appendL 2 16 V U h = some (V', h') ∧ RgH g h' en SV ZV V' (rs ++ us) := by
  have nx := C.nx
  obtain ⟨V', h', e, O, f, _⟩ := C.vec.app (bytes := 16) R (by omega) (by omega)
  have n1 : ∀ a, V.obj = some a → g.next + 1 ≤ a := fun a ha => (C.vec.lo a ha).1
  exact ⟨V', h', e, ⟨C.fr.trans (f.mono fun a _ ha => by have := n1 a ha; omega), (f.eq _ nx fun ha => by have := n1 _ ha; omega).trans C.im, O, Nat.lt_of_lt_of_le nx f.le⟩⟩
set_option maxHeartbeats 1000000 in
theorem regions_ok {g : LHeap} {en : Int} {SV ZV : LV} {ss : List (Int × LV)} {segs : List Seg} {zs : List (Int × Int)} (H : Img g SV ZV ss segs zs) (F : Facts en segs zs) :
    Ok Try.prog 71 [.agg [i en, SV, ZV]] g fun v h => Row h v zE (segs.map reg ++ zs) ∧ Lo g.next g h := by
  refine ok71 fun wf lt => ?_
  have hl := H.lens
  have hk16 := F.sl
  have hk17 := F.zl
  have C0 : RgH g (g.alloc (.cells [i en, SV, ZV] .ex)) en SV ZV .nils [] := ⟨(Fr.alloc g _).mono fun _ _ => False.elim, get_alloc_eq _ _, Vec.nils _ _, Nat.lt_succ_self _⟩
  have x1 := C0.im
  simp (disch := omega) only [F71, J71_0, J71_1, J71_3, i, sh, sh2, shs, shc, shi, dec, H.sv.cell, H.zv.cell, b_len, hl]
  refine loop_n (fun n s h => ∃ (k : Nat) (V : LV), s = (V, i (k : Int)) ∧ k + n = segs.length ∧ RgH g h en SV ZV V ((segs.take k).map reg)) (n := segs.length) ⟨0, .nils, rfl, by omega, C0⟩ ?_
  rintro n s h ⟨k, V, rfl, hk, C⟩
  have x1 := C.im
  cases n with
  | zero =>
    rw [List.take_of_length_le (by omega)] at C
    obtain ⟨V', h', e, C2⟩ := C.app (H.lo wf C.fr).zv (by simp; omega)
    simp (disch := omega) only [L71_4, J71_2, i, sh, sh2, shs, shc, shi, dec, x1, ap25u H.zv.not_str, e]
    exact ⟨C2.vec.row, C2.fr⟩
  | succ n =>
    obtain ⟨t, ht, hd⟩ := drop_at (l := segs) (k := k) (by omega)
    obtain ⟨⟨a0, U⟩, hs, rfl, hU⟩ := (H.lo wf C.fr).sb.get ht
    have hix := H.sv.ix (k := .i64) (i := k) (by rw [H.sb.len]; omega)
    have hld := (H.lo wf C.fr).sv.ld hs
    have e2 : segE.e = 2 := rfl
    have cU := hU.cell
    have hlen := hU.len ty.2.2
    rw [e2] at hix hld
    simp only [segE, cU, if_true] at hld
    have C1 := C.up (Fr.alloc h (.cells [i t.1, U] .ex))
    have Ft := F.seg t (List.mem_of_getElem? ht)
    have hp : IntKind.i64.wrap (t.1.tdiv 256) = page t.1 := rfl
    simp (disch := omega) only [L71_4, i, sh, sh2, shs, shc, shi, dec, hix, hld, cU, binL_quo_int, hp, hlen]
    refine (pages_ok (by omega) (by omega)).mono ?_
    rintro _ _ ⟨rfl, rfl⟩
    have C2 := C1.up (Fr.alloc _ (.cells [i (page t.1), i (pagesN t.2.length)] .ex))
    obtain ⟨V', h', e, C3⟩ := C2.app (rowOf (E := zE) _ (page t.1, pagesN t.2.length) [i (page t.1), i (pagesN t.2.length)] rfl (.ex 1)) (by simp; omega)
    simp (disch := omega) only [i, sh, sh2, shs, shc, shi, dec, bl94, bs25, ap25, e]
    refine ⟨n, by omega, k + 1, V', rfl, by omega, ?_⟩
    rw [take_snoc ht, List.map_append]
    exact C3
theorem Facts.pages {en : Int} {segs : List Seg} {zs : List (Int × Int)} (F : Facts en segs zs) : ∀ z ∈ segs.map reg ++ zs, 0 ≤ z.2 ∧ z.2 ≤ 2 ^ 20 := fun z hz => by
  rcases List.mem_append.1 hz with h | h
  · obtain ⟨s, hs, rfl⟩ := List.mem_map.1 h
    have := F.seg s hs
    simp only [reg, pagesN]
    omega
  · have := F.zer z h; omega
set_option maxRecDepth 4000 in
set_option maxHeartbeats 1000000 in
theorem pages43_ok {g : LHeap} {en : Int} {SV ZV : LV} {ss : List (Int × LV)} {segs : List Seg} {zs : List (Int × Int)} (H : Img g SV ZV ss segs zs) :
    Ok Try.prog 43 [.agg [i en, SV, ZV]] g fun v h => v = i (pagesOf en segs zs) ∧ Lo g.next g h := by
  refine ok43 fun wf lt => ?_
  have f1 : Fr noF g (g.alloc (.cells [i en, SV, ZV] .ex)) := Fr.alloc g _
  simp (disch := omega) only [F43, J43_0, i, sh, sh2, shs, shc, shi, dec, H.sv.cell, H.zv.cell, hcp3]
  refine (check_ok (H.up wf f1)).mono ?_
  rintro _ h0 ⟨rfl, f2⟩
  have f12 : Fr noF g h0 := f1.trans' f2 fun _ _ => id
  rcases checkN_two en segs zs with hN | hN
  rotate_left
  · simp (disch := omega) only [hN, i, sh, sh2, shs, shc, shi, dec]
    exact ⟨by unfold pagesOf; rw [if_neg (by omega)], f12.mono fun _ _ => False.elim⟩
  have F := checkN_facts hN
  have x1 : h0.get g.next = some (.cells [i en, SV, ZV] .ex) := (f2.eq _ (Nat.lt_succ_self _) id).trans (get_alloc_eq _ _)
  simp (disch := omega) only [hN, i, sh, sh2, shs, shc, shi, dec, J43_1, J43_2, x1, hcp3]
  refine call_w (regions_ok (H.up wf f12) F) ?_
  rintro V h2 ⟨RV, f3⟩ _ _ hVo
  have hlen := RV.len ty.2.1
  have hn := f12.le
  have lo2 : Lo g.next g h2 := (f12.mono fun _ _ => False.elim).trans (f3.mono fun a _ h => Nat.le_trans hn h)
  have hp : i (pagesOf en segs zs) = i (sumZ (segs.map reg ++ zs)) := by unfold pagesOf; rw [if_pos hN]
  have hP := F.pages
  have hL : (segs.map reg ++ zs).length ≤ 32 := by have := F.sl; have := F.zl; simp; omega
  generalize segs.map reg ++ zs = rs at RV hlen hp hP hL
  simp (disch := omega) only [i, sh, sh2, shs, shc, shi, dec, b_len, hlen, J43_4]
  refine loop_n (fun n s h => ∃ (k : Nat), s = (i (sumZ (rs.take k)), i (k : Int)) ∧ k + n = rs.length ∧ Row h V zE rs ∧ Lo g.next g h ∧ (∀ a, V.obj = some a → a < h.next)) (n := rs.length) ⟨0, rfl, by omega, RV, lo2, fun a ha => hVo a (obj_mem ha)⟩ ?_
  rintro n s h ⟨k, rfl, hk, R, lo, ob⟩
  cases n with
  | zero =>
    rw [List.take_of_length_le (by omega)]
    simp (disch := omega) only [L43_5, J43_3, i, sh, sh2, shs, shc, shi, dec]
    exact ⟨hp.symm, lo⟩
  | succ n =>
    obtain ⟨t, ht, hd⟩ := drop_at (l := rs) (k := k) (by omega)
    have hix := R.ix (k := .i64) (i := k) (by omega)
    have hld := R.ld ht
    have e2 : zE.e = 2 := rfl
    rw [e2] at hix hld
    simp only [zE] at hld
    have b1 := sumZ_bound (l := rs.take k) (k := 32) (by rw [List.length_take]; omega) fun z hz => hP z (List.mem_of_mem_take hz)
    have b2 := hP t (List.mem_of_getElem? ht)
    simp (disch := omega) only [L43_5, i, sh, sh2, shs, shc, shi, dec, hix, hld]
    refine ⟨n, by omega, k + 1, ?_, by omega, R.fr fun a ha => get_alloc_ne _ _ (by have := ob a ha; omega), lo.alloc' _, fun a ha => Nat.lt_succ_of_lt (ob a ha)⟩
    rw [take_snoc ht, sumZ_snoc]
    simp
set_option maxRecDepth 4000 in
set_option maxHeartbeats 1000000 in
theorem pages44_ok {g : LHeap} {en : Int} {SV ZV : LV} {ss : List (Int × LV)} {segs : List Seg} {zs : List (Int × Int)} (H : Img g SV ZV ss segs zs) :
    Ok Try.prog 44 [.agg [i en, SV, ZV]] g fun v h => v = i (pagesOf en segs zs) ∧ Lo g.next g h := by
  refine ok44 fun wf lt => ?_
  have hl := H.lens
  have f1 : Fr noF g (g.alloc (.cells [i en, SV, ZV] .ex)) := Fr.alloc g _
  simp (disch := omega) only [F44, J44_0, i, sh, sh2, shs, shc, shi, dec, H.sv.cell, H.zv.cell, hcp3]
  refine (refcheck_ok (H.up wf f1)).mono ?_
  rintro _ h0 ⟨rfl, f2⟩
  have f12 : Fr noF g h0 := f1.trans' f2 fun _ _ => id
  rcases checkN_two en segs zs with hN | hN
  rotate_left
  · simp (disch := omega) only [hN, i, sh, sh2, shs, shc, shi, dec]
    exact ⟨by unfold pagesOf; rw [if_neg (by omega)], f12.mono fun _ _ => False.elim⟩
  have F := checkN_facts hN
  have hk16 := F.sl
  have hk17 := F.zl
  have x1 : h0.get g.next = some (.cells [i en, SV, ZV] .ex) := (f2.eq _ (Nat.lt_succ_self _) id).trans (get_alloc_eq _ _)
  have H0 := H.up wf f12
  have hp : i (pagesOf en segs zs) = i (sumZ (segs.map reg) + sumZ zs) := by unfold pagesOf; rw [if_pos hN, sumZ_app]
  have hP := F.pages
  have lo : Lo g.next g h0 := f12.mono fun _ _ => False.elim
  simp (disch := omega) only [hN, i, sh, sh2, shs, shc, shi, dec, J44_1, J44_2, J44_7, x1, hcp3]
  refine loop_n (fun n s h => ∃ (k : Nat), s = (i (sumZ ((segs.take k).map reg)), i (k : Int)) ∧ k + n = segs.length ∧ h = h0) (n := segs.length) ⟨0, rfl, by omega, rfl⟩ ?_
  rintro n s h ⟨k, rfl, hk, rfl⟩
  have b1 := sumZ_bound (l := (segs.take k).map reg) (k := 16) (by rw [List.length_map, List.length_take]; omega) fun z hz => hP z (by
    obtain ⟨s, hs, rfl⟩ := List.mem_map.1 hz
    exact List.mem_append.2 (.inl (List.mem_map.2 ⟨s, List.mem_of_mem_take hs, rfl⟩)))
  cases n with
  | succ n =>
    obtain ⟨t, ht, hd⟩ := drop_at (l := segs) (k := k) (by omega)
    obtain ⟨⟨a0, U⟩, hs, rfl, hU⟩ := H0.sb.get ht
    have hix := H.sv.ix (k := .i64) (i := k) (by rw [H.sb.len]; omega)
    obtain ⟨pa, po, hat, hfl⟩ := H0.sv.fl hs
    have cU := hU.cell
    have hl1 : cellO none (po + 1) (h.get pa) = some U := by have := hfl 1 _ rfl; simpa [cU] using this
    have e2 : segE.e = 2 := rfl
    have hlen := hU.len ty.2.2
    rw [e2] at hix hat
    have Ft := F.seg t (List.mem_of_getElem? ht)
    have hq : ((t.2.length : Int) + 255).tdiv 256 = pagesN t.2.length := Int.tdiv_eq_ediv_of_nonneg (by omega)
    have hb : 0 ≤ pagesN t.2.length ∧ pagesN t.2.length ≤ 2 ^ 20 := by unfold pagesN; omega
    simp (disch := omega) only [L44_8, i, sh, sh2, shs, shc, shi, dec, x1, b_len, hl, hix, hat, hl1, hlen, binL_quo_int, hq]
    refine ⟨n, by omega, k + 1, ?_, by omega⟩
    rw [take_snoc ht, List.map_append]
    simp only [List.map_cons, List.map_nil, sumZ_snoc, reg]
    simp
  | zero =>
    rw [List.take_of_length_le (by omega)] at b1 ⊢
    simp (disch := omega) only [L44_8, J44_3, J44_5, i, sh, sh2, shs, shc, shi, dec, x1, b_len, hl]
    refine loop_n (fun n s h' => ∃ (k : Nat), s = (i (sumZ (segs.map reg) + sumZ (zs.take k)), i (k : Int)) ∧ k + n = zs.length ∧ h' = h) (n := zs.length) ⟨0, by simp [sumZ], by omega, rfl⟩ ?_
    rintro n s h' ⟨k, rfl, hk, rfl⟩
    have b2 := sumZ_bound (l := zs.take k) (k := 16) (by rw [List.length_take]; omega) fun z hz => hP z (List.mem_append.2 (.inr (List.mem_of_mem_take hz)))
    cases n with
    | zero =>
      rw [List.take_of_length_le (by omega)]
      simp (disch := omega) only [L44_6, J44_4, i, sh, sh2, shs, shc, shi, dec, x1, b_len, hl]
      exact ⟨hp.symm, lo⟩
    | succ n =>
      obtain ⟨t, ht, hd⟩ := drop_at (l := zs) (k := k) (by omega)
      have hix := H.zv.ix (k := .i64) (i := k) (by omega)
      obtain ⟨pa, po, hat, hfl⟩ := H0.zv.fl ht
      have hl1 : cellO none (po + 1) (h'.get pa) = some (i t.2) := hfl 1 _ rfl
      have e2 : zE.e = 2 := rfl
      rw [e2] at hix hat
      have Ft := F.zer t (List.mem_of_getElem? ht)
      simp (disch := omega) only [L44_6, i, sh, sh2, shs, shc, shi, dec, x1, b_len, hl, hix, hat, hl1]
      refine ⟨n, by omega, k + 1, ?_, by omega⟩
      rw [take_snoc ht, sumZ_snoc]
      simp
      omega
end Go.Proofs.Ytaofgdibpbpalaa
