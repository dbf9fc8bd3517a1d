/-
  parapetref23.Make: the same bytes as image.Make.
-/
import Derived.Test.YtaofgdibpbpalaaIm5
import Derived.Test.YtaofgdibpbpalaaIm3
set_option linter.all false
namespace Go.Proofs.Ytaofgdibpbpalaa
open Go.ChangeShapes Go.WideShapes Go.ChangeAt Go.RowKit Go.Lm
set_option linter.unusedSimpArgs false
theorem two_mod {n : Int} (h : 0 ≤ n) : IntKind.u8.wrap (n.tmod 256) = IntKind.u8.wrap n := by
  rw [Int.tmod_eq_emod_of_nonneg h, IntKind.wrap_u8, IntKind.wrap_u8]; omega
theorem two_div {n : Int} (h : 0 ≤ n) : IntKind.u8.wrap (IntKind.i64.wrap (n.tdiv 256)) = IntKind.u8.wrap (n / 256) := by
  rw [Int.tdiv_eq_ediv_of_nonneg h, IntKind.wrap_u8, IntKind.wrap_u8]
  have : IntKind.i64.wrap (n / 256) % 256 = (n / 256) % 256 := by
    unfold IntKind.wrap
    simp only [IntKind.signed, IntKind.bits]
    simp
    omega
  exact this
theorem two_ok {h : LHeap} {n : Int} (h0 : 0 ≤ n) : Ok Try.prog 67 [i n] h fun v h' => v = .slice h.next 0 2 (.ex 2) ∧ h' = h.alloc (.cells [B (IntKind.u8.wrap n), B (IntKind.u8.wrap (n / 256))] .ex) := by
  refine ok67 fun _ _ => ?_
  simp (disch := omega) only [F67, i, sh, sh2, shc, shi, dec, binL_rem_int, binL_quo_int, conv_u8, two_mod h0, two_div h0, bs23_2]
/-- The heap of the reference's Make: the image's copy; the bytes are one's own. -/
structure RmH (g h : LHeap) (en : Int) (SV ZV V : LV) (bs : List Int) : Prop where
  lo : Lo g.next g h
  im : h.get g.next = some (.cells [i en, SV, ZV] .ex)
  nx : g.next < h.next
  vec : Vec byteE (g.next + 1) h V bs
theorem RmH.two {g h : LHeap} {en : Int} {SV ZV V : LV} {bs : List Int} (C : RmH g h en SV ZV V bs) (n : Int) (hb : (bs.length + 2) * 2 ≤ 2 ^ 48) :
    ∃ V' h', builtinL Try.prog .append [23, 23] [V, .slice h.next 0 2 (.ex 2)] (h.alloc (.cells [B (IntKind.u8.wrap n), B (IntKind.u8.wrap (n / 256))] .ex)) = some (V', h') ∧ RmH g h' en SV ZV V' (bs ++ two n) := by
  have nx := C.nx
  have f0 : Fr noF h (h.alloc (.cells [B (IntKind.u8.wrap n), B (IntKind.u8.wrap (n / 256))] .ex)) := Fr.alloc _ _
  obtain ⟨V', h', e, O, f, nV⟩ := (C.vec.up f0 fun _ _ => id).app (bytes := 1) (row2 (x := IntKind.u8.wrap n) (y := IntKind.u8.wrap (n / 256)) h (c := .ex 2)) (by simp only [List.length_cons, List.length_nil]; omega) (by simp only [LHeap.next_alloc]; omega)
  have f1 : Fr (fun a => V.obj = some a) h h' := (f0.mono fun _ _ => False.elim).trans f
  have n1 : ∀ a, V.obj = some a → g.next + 1 ≤ a := fun a ha => (C.vec.lo a ha).1
  refine ⟨V', h', by rw [ap23s]; exact e, ⟨C.lo.trans (f1.mono fun a _ ha => by have := n1 a ha; omega), (f1.eq _ nx fun ha => by have := n1 _ ha; omega).trans C.im, Nat.lt_of_lt_of_le nx f1.le, O⟩⟩
theorem RmH.app {g h : LHeap} {en : Int} {SV ZV V U : LV} {bs us : List Int} (C : RmH g h en SV ZV V bs) (R : Row h U byteE us) (hb : (bs.length + us.length) * 2 ≤ 2 ^ 48) :
    ∃ V' h', builtinL Try.prog .append [23, 23] [V, U] h = some (V', h') ∧ RmH g h' en SV ZV V' (bs ++ us) := by
  have nx := C.nx
  obtain ⟨V', h', e, O, f1, nV⟩ := C.vec.app (bytes := 1) R (by omega) (by omega)
  have n1 : ∀ a, V.obj = some a → g.next + 1 ≤ a := fun a ha => (C.vec.lo a ha).1
  refine ⟨V', h', by rw [ap23 R.not_str]; exact e, ⟨C.lo.trans (f1.mono fun a _ ha => by have := n1 a ha; omega), (f1.eq _ nx fun ha => by have := n1 _ ha; omega).trans C.im, Nat.lt_of_lt_of_le nx f1.le, O⟩⟩
set_option maxRecDepth 4000 in
set_option maxHeartbeats 2000000 in
theorem refmake_ok {g : LHeap} {en : Int} {SV ZV : LV} {ss : List (Int × LV)} {segs : List Seg} {zs : List (Int × Int)} (H : Img g SV ZV ss segs zs) :
    Ok Try.prog 40 [.agg [i en, SV, ZV]] g (Made g en segs zs) := by
  refine ok40 fun wf lt => ?_
  have hl := H.lens
  have cS := H.sv.cell
  have cZ := H.zv.cell
  have f1 : Fr noF g (g.alloc (.cells [i en, SV, ZV] .ex)) := Fr.alloc _ _
  have H1 := H.up wf f1
  have hcopy : ∀ off, off + 3 ≤ 3 → cellO (some 3) off (some (.cells [i en, SV, ZV] .ex)) = some (.agg [i en, SV, ZV]) := fun off h => by
    obtain rfl : off = 0 := by omega
    rfl
  simp (disch := omega) only [F40, J40_0, cS, cZ, shc, i, sh, sh2, shi, dec, hcopy]
  refine (refcheck_ok H1).mono ?_
  rintro _ h0 ⟨rfl, f2⟩
  rcases checkN_two en segs zs with hN | hN
  rotate_left
  · simp (disch := omega) only [hN, i, sh, sh2, shi, dec]
    exact .inr ⟨hN, rfl, (f1.mono fun _ _ => False.elim).trans (f2.mono fun _ _ => False.elim)⟩
  have hmag := conv23 h0.next 4 4 (h0.alloc (.cells [B 80, B 88, B 69, B 49] .ex)) _ (get_alloc_eq _ _)
  generalize hh1 : (h0.alloc (.cells [B 80, B 88, B 69, B 49] .ex)).set h0.next (.cells [B 80, B 88, B 69, B 49] .ro) = h1 at hmag
  have hm1 : h1.get h0.next = some (.cells (magic.map B) .ro) := by subst hh1; exact get_set_eq _ _ _
  have n1 : h1.next = h0.next + 1 := by subst hh1; rfl
  have n0 := f2.le
  simp only [LHeap.next_alloc] at n0
  have fa : Fr noF h0 h1 := by subst hh1; exact (Fr.alloc h0 _).set' _ (.inl (Nat.le_refl _))
  have C0 : RmH g h1 en SV ZV (.slice h0.next 0 4 (.ex 4)) magic := by
    refine ⟨((f1.trans' (f2.trans fa) fun _ _ => id).mono fun _ _ => False.elim), ?_, by omega, ⟨?_, ⟨Nat.le_refl _, fun h => by omega⟩, ?_⟩⟩
    · rw [fa.eq _ (by omega) id, f2.eq _ (by simp only [LHeap.next_alloc]; omega) id, get_alloc_eq]
    · exact Row.of (l := magic) (vs := magic.map B) (own := .ro) hm1 rfl rfl (by show 0 + 4 * 1 ≤ 4; omega)
    · rintro a ha; cases ha; omega
  have F := checkN_facts hN
  have hk16 := F.sl
  have hk17 := F.zl
  have hk18 := F.body
  have x1 := C0.im
  simp (disch := omega) only [hN, i, sh, sh2, shs, shc, shi, dec, J40_1, bs23_4, hmag, J40_2, x1]
  generalize LV.slice h0.next 0 4 (.ex 4) = V0 at C0
  refine (two_ok F.en0).mono ?_
  rintro _ _ ⟨rfl, rfl⟩
  obtain ⟨V1, h2, e, C1⟩ := C0.two en (by show (4 + 2) * 2 ≤ 2 ^ 48; omega)
  have x1 := C1.im
  simp (disch := omega) only [e, J40_3, i, sh, sh2, shs, shc, shi, dec, x1, b_len, hl]
  refine (two_ok (by omega)).mono ?_
  rintro _ _ ⟨rfl, rfl⟩
  obtain ⟨V2, h3, e, C2⟩ := C1.two (segs.length : Int) (by show (4 + 2 + 2) * 2 ≤ 2 ^ 48; omega)
  have x1 := C2.im
  simp (disch := omega) only [e, J40_4, i, sh, sh2, shs, shc, shi, dec, x1, b_len, hl]
  refine (two_ok (by omega)).mono ?_
  rintro _ _ ⟨rfl, rfl⟩
  obtain ⟨V3, h4, e, C3⟩ := C2.two (zs.length : Int) (by show (4 + 2 + 2 + 2) * 2 ≤ 2 ^ 48; omega)
  simp (disch := omega) only [e, J40_5, J40_13, i, sh, sh2, shs, shc, shi, dec]
  refine loop_n (fun n s h => ∃ (k : Nat) (V : LV), s = (V, i (k : Int)) ∧ k + n = segs.length ∧ RmH g h en SV ZV V (magic ++ (two en ++ two (segs.length : Int) ++ two (zs.length : Int)) ++ (segs.take k).flatMap segH)) (n := segs.length)
    ⟨0, V3, rfl, by omega, by simpa using C3⟩ ?_
  rintro n s h ⟨k, V, rfl, hk, C⟩
  have x1 := C.im
  cases n with
  | succ n =>
    obtain ⟨t, ht, hd⟩ := drop_at (l := segs) (k := k) (by omega)
    obtain ⟨⟨a0, U⟩, hs, rfl, hU⟩ := H.sb.get ht
    have hix := H.sv.ix (k := .i64) (i := k) (by rw [H.sb.len]; omega)
    obtain ⟨pa, po, hat, hfl⟩ := (H.lo wf C.lo).sv.fl hs
    have hl0 : cellO none po (h.get pa) = some (i t.1) := hfl 0 _ rfl
    have cU := hU.cell
    have hlen := hU.len ty.2.2
    have e2 : segE.e = 2 := rfl
    rw [e2] at hix hat
    have Ft := F.seg t (List.mem_of_getElem? ht)
    have hlb : ((segs.take k).flatMap segH).length = 4 * k := by rw [flat4 _ (fun _ => rfl), List.length_take]; omega
    simp (disch := omega) only [L40_14, i, sh, sh2, shc, shi, dec, hix, hat, hl0, b_len, hl, x1]
    refine (two_ok Ft.1).mono ?_
    rintro _ _ ⟨rfl, rfl⟩
    obtain ⟨V1, h2, e, C1⟩ := C.two t.1 (by simp only [List.length_append, hlb, magic, two, List.length_cons, List.length_nil]; omega)
    have x1 := C1.im
    obtain ⟨pa', po', hat', hfl'⟩ := (H.lo wf C1.lo).sv.fl hs
    have hl1 : cellO none (po' + 1) (h2.get pa') = some U := by have := hfl' 1 _ rfl; simpa [cU] using this
    rw [e2] at hat'
    simp (disch := omega) only [e, i, sh, sh2, shc, shi, dec, hix, hat', hl1, b_len, hl, x1, hlen]
    refine (two_ok (by omega)).mono ?_
    rintro _ _ ⟨rfl, rfl⟩
    obtain ⟨V2, h3, e, C2⟩ := C1.two (t.2.length : Int) (by simp only [List.length_append, hlb, magic, two, List.length_cons, List.length_nil]; omega)
    simp (disch := omega) only [e, i, sh, sh2, shc, shi, dec]
    refine ⟨n, by omega, k + 1, V2, rfl, by omega, ?_⟩
    rw [take_flat _ ht]
    simpa only [segH, List.append_assoc] using C2
  | zero =>
    rw [List.take_of_length_le (by omega)] at C
    simp (disch := omega) only [L40_14, J40_6, J40_11, i, sh, sh2, shc, shi, dec, x1, b_len, hl]
    refine loop_n (fun n s h => ∃ (k : Nat) (V : LV), s = (V, i (k : Int)) ∧ k + n = zs.length ∧ RmH g h en SV ZV V (magic ++ (two en ++ two (segs.length : Int) ++ two (zs.length : Int)) ++ segs.flatMap segH ++ (zs.take k).flatMap zerH)) (n := zs.length)
      ⟨0, V, rfl, by omega, by simpa using C⟩ ?_
    rintro n s h ⟨k, V, rfl, hk, C⟩
    have x1 := C.im
    have hls : (segs.flatMap segH).length = 4 * segs.length := flat4 _ (fun _ => rfl) _
    cases n with
    | succ n =>
      obtain ⟨t, ht, hd⟩ := drop_at (l := zs) (k := k) (by omega)
      have hix := H.zv.ix (k := .i64) (i := k) (by omega)
      obtain ⟨pa, po, hat, hfl⟩ := (H.lo wf C.lo).zv.fl ht
      have hl0 : cellO none po (h.get pa) = some (i t.1) := hfl 0 _ rfl
      have e2 : zE.e = 2 := rfl
      rw [e2] at hix hat
      have Ft := F.zer t (List.mem_of_getElem? ht)
      have hlb : ((zs.take k).flatMap zerH).length = 4 * k := by rw [flat4 _ (fun _ => rfl), List.length_take]; omega
      simp (disch := omega) only [L40_12, i, sh, sh2, shc, shi, dec, hix, hat, hl0, b_len, hl, x1]
      refine (two_ok (by omega)).mono ?_
      rintro _ _ ⟨rfl, rfl⟩
      obtain ⟨V1, h2, e, C1⟩ := C.two t.1 (by simp only [List.length_append, hlb, hls, magic, two, List.length_cons, List.length_nil]; omega)
      have x1 := C1.im
      obtain ⟨pa', po', hat', hfl'⟩ := (H.lo wf C1.lo).zv.fl ht
      have hl1 : cellO none (po' + 1) (h2.get pa') = some (i t.2) := hfl' 1 _ rfl
      rw [e2] at hat'
      simp (disch := omega) only [e, i, sh, sh2, shc, shi, dec, hix, hat', hl1, b_len, hl, x1]
      refine (two_ok (by omega)).mono ?_
      rintro _ _ ⟨rfl, rfl⟩
      obtain ⟨V2, h3, e, C2⟩ := C1.two t.2 (by simp only [List.length_append, hlb, hls, magic, two, List.length_cons, List.length_nil]; omega)
      simp (disch := omega) only [e, i, sh, sh2, shc, shi, dec]
      refine ⟨n, by omega, k + 1, V2, rfl, by omega, ?_⟩
      rw [take_flat _ ht]
      simpa only [zerH, List.append_assoc] using C2
    | zero =>
      rw [List.take_of_length_le (by omega)] at C
      simp (disch := omega) only [L40_12, J40_7, J40_9, i, sh, sh2, shc, shi, dec, x1, b_len, hl]
      refine loop_n (fun n s h => ∃ (k : Nat) (V : LV), s = (V, i (k : Int)) ∧ k + n = segs.length ∧ RmH g h en SV ZV V (magic ++ (two en ++ two (segs.length : Int) ++ two (zs.length : Int)) ++ segs.flatMap segH ++ zs.flatMap zerH ++ (segs.take k).flatMap (·.2))) (n := segs.length)
        ⟨0, V, rfl, by omega, by simpa using C⟩ ?_
      rintro n s h ⟨k, V, rfl, hk, C⟩
      have x1 := C.im
      cases n with
      | zero =>
        rw [List.take_of_length_le (by omega)] at C
        simp (disch := omega) only [L40_10, J40_8, i, sh, sh2, shc, shi, dec, b_len, hl, x1]
        have vec := C.vec
        exact .inl ⟨hN, V, rfl, ⟨vec.row, vec.grow, fun a ha => ⟨by have := (vec.lo a ha).1; omega, (vec.lo a ha).2⟩⟩, C.lo⟩
      | succ n =>
        obtain ⟨t, ht, hd⟩ := drop_at (l := segs) (k := k) (by omega)
        obtain ⟨⟨a0, U⟩, hs, rfl, hU⟩ := (H.lo wf C.lo).sb.get ht
        have hix := H.sv.ix (k := .i64) (i := k) (by rw [H.sb.len]; omega)
        obtain ⟨pa, po, hat, hfl⟩ := (H.lo wf C.lo).sv.fl hs
        have cU := hU.cell
        have hl1 : cellO none (po + 1) (h.get pa) = some U := by have := hfl 1 _ rfl; simpa [cU] using this
        have e2 : segE.e = 2 := rfl
        rw [e2] at hix hat
        obtain ⟨V', h', e, C1⟩ := C.app hU (by
          have : ((segs.take k).flatMap (·.2)).length ≤ (segs.flatMap (·.2)).length := by
            conv => rhs; rw [← List.take_append_drop k segs, List.flatMap_append, List.length_append]
            omega
          have : (zs.flatMap zerH).length = 4 * zs.length := flat4 _ (fun _ => rfl) _
          have := (F.seg t (List.mem_of_getElem? ht)).2.1
          simp only [List.length_append, *, List.length_cons, List.length_nil, magic, two]
          omega)
        simp (disch := omega) only [L40_10, i, sh, sh2, shc, shi, dec, hix, hat, hl1, b_len, hl, x1, e]
        refine ⟨n, by omega, k + 1, V', rfl, by omega, ?_⟩
        rw [take_flat _ ht]
        simpa only [List.append_assoc] using C1
end Go.Proofs.Ytaofgdibpbpalaa
