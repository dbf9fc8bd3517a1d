/-
  image.Make: an image's bytes.
-/
import Derived.Test.YtaofgdibpbpalaaIm4
set_option linter.all false
namespace Go.Proofs.Ytaofgdibpbpalaa
open Go.ChangeShapes Go.WideShapes Go.ChangeAt Go.RowKit Go.Lm
set_option linter.unusedSimpArgs false
/-- What Make gives back. -/
def Made (g : LHeap) (en : Int) (segs : List Seg) (zs : List (Int × Int)) (v : LV) (h : LHeap) : Prop :=
  (checkN en segs zs = 0 ∧ ∃ V, v = .tuple [V, i 0] ∧ Vec byteE g.next h V (makeB en segs zs) ∧ Lo g.next g h) ∨ (checkN en segs zs = 230 ∧ v = .tuple [.nils, i 230] ∧ Lo g.next g h)
/-- The heap of Make: the image's copy, the cell of the bytes. -/
structure MkH (g h : LHeap) (en : Int) (SV ZV : LV) (o : Nat) (V : LV) (bs : List Int) : Prop where
  lo : Lo g.next g h
  im : h.get g.next = some (.cells [i en, SV, ZV] .ex)
  out : Out (g.next + 1) o h V bs
theorem MkH.nx {g h : LHeap} {en : Int} {SV ZV : LV} {o : Nat} {V : LV} {bs : List Int} (C : MkH g h en SV ZV o V bs) : g.next < o ∧ o < h.next := by
  have := C.out.ob; omega
theorem MkH.to {g h h' : LHeap} {en : Int} {SV ZV : LV} {o : Nat} {V V' : LV} {bs bs' : List Int} (C : MkH g h en SV ZV o V bs) (O : Out (g.next + 1) o h' V' bs') (f : Lo (g.next + 1) h h') : MkH g h' en SV ZV o V' bs' := by
  have := C.nx
  exact ⟨C.lo.trans (f.mono fun a _ h => Nat.le_trans (Nat.le_succ _) h), (f.eq _ (by omega) (by omega)).trans C.im, O⟩
theorem MkH.up {g h h' : LHeap} {en : Int} {SV ZV : LV} {o : Nat} {V : LV} {bs : List Int} (C : MkH g h en SV ZV o V bs) (f : Fr noF h h') : MkH g h' en SV ZV o V bs :=
  C.to (C.out.up f) (f.mono fun _ _ => False.elim)
theorem MkH.call {g h : LHeap} {en : Int} {SV ZV : LV} {o : Nat} {V : LV} {bs ns : List Int} (C : MkH g h en SV ZV o V bs) {L : LV} (R : Row h L intE ns) (hL : ∀ a, L.obj = some a → a < h.next ∧ a ≠ o ∧ V.obj ≠ some a) (hb : (bs.length + 2 * ns.length) * 2 ≤ 2 ^ 48) :
    Ok Try.prog 58 [L, .ptr o 0] h fun _ h' => ∃ V', MkH g h' en SV ZV o V' (bs ++ ns.flatMap two) :=
  (clos_ok C.out R hL hb).mono fun _ _ ⟨V', O, f⟩ => ⟨V', C.to O f⟩
theorem Img.lo {g h : LHeap} {SV ZV : LV} {ss : List (Int × LV)} {segs : List Seg} {zs : List (Int × Int)} (H : Img g SV ZV ss segs zs) (wf : g.Wf) (f : Lo g.next g h) : Img h SV ZV ss segs zs := by
  have r : ∀ {X : Type} {E : Enc X} {V : LV} {l : List X}, Row g V E l → Row h V E l := fun R => by
    rcases R with R | ⟨a, off, cap, vs, own, rfl, hg, hv, hl⟩
    · exact .inl R
    · have ha := wf.lt a _ hg
      exact .inr ⟨a, off, cap, vs, own, rfl, (f.eq a ha (by omega)).trans hg, hv, hl⟩
  exact ⟨r H.sv, H.sb.mono fun _ _ h => ⟨h.1, r h.2⟩, r H.zv⟩
theorem newrow {l : List Int} {cs : List LV} (h : LHeap) (e : cs = l.map i) (c : Cap) : Row (h.alloc (.cells cs .ex)) (.slice h.next 0 l.length c) intE l := by
  subst e
  refine Row.of (get_alloc_eq _ _) rfl ?_ (by show 0 + l.length * 1 ≤ _; simp)
  show ((l.map i).drop 0).take (l.length * 1) = l.flatMap fun n => [i n]
  rw [List.drop_zero, Nat.mul_one, List.take_of_length_le (by simp)]
  induction l with
  | nil => rfl
  | cons x l ih => simp [ih]
theorem conv23 (a l c : Nat) (h : LHeap) (vs : List LV) (hg : h.get a = some (.cells vs .ex)) : convL Try.prog 23 23 (.slice a 0 l (.ex c)) h = some (.slice a 0 l (.ex c), h.set a (.cells vs .ro)) := by
  have e : convL Try.prog 23 23 (.slice a 0 l (.ex c)) h = (match h.get a with
      | some (.cells vs own) => if 23 = 23 ∧ own ≠ .ro then some (.slice a 0 l (.ex c), h.set a (.cells vs .ro)) else none
      | _ => none) := by kernel_rfl
  rw [e, hg]
  simp
set_option maxRecDepth 4000 in
set_option maxHeartbeats 2000000 in
theorem make_ok {g : LHeap} {en : Int} {SV ZV : LV} {ss : List (Int × LV)} {segs : List Seg} {zs : List (Int × Int)} (H : Img g SV ZV ss segs zs) :
    Ok Try.prog 18 [.agg [i en, SV, ZV]] g (Made g en segs zs) := by
  refine ok18 fun wf lt => ?_
  have hl := H.lens
  have cS := H.sv.cell
  have cZ := H.zv.cell
  have f1 : Fr noF g (g.alloc (.cells [i en, SV, ZV] .ex)) := Fr.alloc _ _
  have H1 := H.up wf f1
  have hcopy : ∀ off, off + 3 ≤ 3 → cellO (some 3) off (some (.cells [i en, SV, ZV] .ex)) = some (.agg [i en, SV, ZV]) := fun off h => by
    obtain rfl : off = 0 := by omega
    rfl
  simp (disch := omega) only [F18, J18_0, cS, cZ, shc, i, sh, sh2, shi, dec, hcopy]
  refine (check_ok H1).mono ?_
  rintro _ h0 ⟨rfl, f2⟩
  rcases checkN_two en segs zs with hN | hN
  rotate_left
  · simp (disch := omega) only [hN, i, sh, sh2, shi, dec]
    exact .inr ⟨hN, rfl, (f1.mono fun _ _ => False.elim).trans (f2.mono fun _ _ => False.elim)⟩
  have hmag := conv23 h0.next 4 4 (h0.alloc (.cells [B 80, B 88, B 69, B 49] .ex)) _ (get_alloc_eq _ _)
  have e0 : ∀ h, newL .nils h = some (.ptr h.next 0, h.alloc (.cells [.nils] .ex)) := fun h => new_cell h rfl
  generalize hh1 : (h0.alloc (.cells [B 80, B 88, B 69, B 49] .ex)).set h0.next (.cells [B 80, B 88, B 69, B 49] .ro) = h1 at hmag
  have hm1 : h1.get h0.next = some (.cells (magic.map B) .ro) := by subst hh1; exact get_set_eq _ _ _
  have n1 : h1.next = h0.next + 1 := by subst hh1; rfl
  have n0 := f2.le
  simp only [LHeap.next_alloc] at n0
  have fa : Fr noF h0 h1 := by subst hh1; exact (Fr.alloc h0 _).set' _ (.inl (Nat.le_refl _))
  have C0 : MkH g (h1.alloc (.cells [.slice h0.next 0 4 (.ex 4)] .ex)) en SV ZV h1.next (.slice h0.next 0 4 (.ex 4)) magic := by
    refine ⟨(((f1.trans' (f2.trans fa) fun _ _ => id).alloc' _).mono fun _ _ => False.elim), ?_, ⟨get_alloc_eq _ _, ⟨?_, ⟨Nat.le_refl _, fun h => by omega⟩, ?_⟩, ?_, ?_⟩⟩
    · rw [get_alloc_ne _ _ (by omega), fa.eq _ (by omega) id, f2.eq _ (by simp only [LHeap.next_alloc]; omega) id, get_alloc_eq]
    · exact Row.of (l := magic) (vs := magic.map B) (own := .ro) (by rw [get_alloc_ne _ _ (by omega)]; exact hm1) rfl rfl (by show 0 + 4 * 1 ≤ 4; omega)
    · rintro a ha; cases ha; simp only [LHeap.next_alloc]; omega
    · simp only [LHeap.next_alloc]; omega
    · intro ha; simp only [LV.obj, Option.some.injEq] at ha; omega
  simp (disch := omega) only [hN, i, sh, sh2, shs, shc, shi, dec, J18_1, bs23_4, hmag, e0, J18_2, J18_3]
  generalize h1.alloc (.cells [.slice h0.next 0 4 (.ex 4)] .ex) = h2 at C0
  generalize h1.next = o at C0
  generalize LV.slice h0.next 0 4 (.ex 4) = V0 at C0
  have F := checkN_facts hN
  have hk16 := F.sl
  have hk17 := F.zl
  have hk18 := F.body
  have x1 := C0.im
  have C1 := C0.up (Fr.alloc h2 (.cells [i en, i segs.length, i zs.length] .ex))
  have nx0 := C0.nx
  have fresh : ∀ {h : LHeap} {V : LV} {bs : List Int} {c : Cap} {n : Nat}, MkH g h en SV ZV o V bs → ∀ ob a, (LV.slice h.next 0 n c).obj = some a → a < (h.alloc ob).next ∧ a ≠ o ∧ V.obj ≠ some a := fun {h V bs c n} C ob a ha => by
    simp only [LV.obj, Option.some.injEq] at ha
    subst ha
    have := C.nx
    refine ⟨Nat.lt_succ_self _, by omega, fun hV => ?_⟩
    have := (C.out.vec.lo _ hV).2
    omega
  simp (disch := omega) only [x1, sh, sh2, b_len, hl, bs51_3, cv58]
  refine (C1.call (newrow (l := [en, segs.length, zs.length]) h2 rfl (.ex 3)) (fresh C0 _) (by show (4 + 2 * 3) * 2 ≤ 2 ^ 48; omega)).mono ?_
  rintro _ h3 ⟨V3, C3⟩
  have x1 := C3.im
  simp (disch := omega) only [J18_4, J18_12, x1, sh, sh2, b_len, hl]
  refine loop_n (fun n s h => ∃ (k : Nat) (V : LV), s = i (k : Int) ∧ k + n = segs.length ∧ MkH g h en SV ZV o V (magic ++ (two en ++ two (segs.length : Int) ++ two (zs.length : Int)) ++ (segs.take k).flatMap segH)) (n := segs.length)
    ⟨0, V3, rfl, by omega, by simpa using C3⟩ ?_
  rintro n s h ⟨k, V, rfl, hk, C⟩
  cases n with
  | succ n =>
    obtain ⟨t, ht, hd⟩ := drop_at (l := segs) (k := k) (by omega)
    obtain ⟨⟨a0, U⟩, hs, rfl, hU⟩ := H.sb.get ht
    have hix := H.sv.ix (k := .i64) (i := k) (by rw [H.sb.len]; omega)
    have hld := (H.lo wf C.lo).sv.ld hs
    have e2 : segE.e = 2 := rfl
    have cU := hU.cell
    have hlen := hU.len ty.2.2
    rw [e2] at hix hld
    simp only [segE, cU, if_true] at hld
    have C1 := C.up (Fr.alloc h (.cells [i t.1, U] .ex))
    have C2 := C1.up (Fr.alloc _ (.cells [i t.1, i t.2.length] .ex))
    simp (disch := omega) only [L18_13, i, sh, sh2, shc, shi, dec, hix, hld, cU, b_len, hlen, bs51_2, cv58]
    refine (C2.call (newrow (l := [t.1, t.2.length]) _ rfl (.ex 2)) (fresh C1 _) ?_).mono ?_
    · have : ((segs.take k).flatMap segH).length = 4 * (segs.take k).length := flat4 _ (fun _ => rfl) _
      simp only [List.length_append, this, List.length_take, List.length_cons, List.length_nil, magic, two]
      omega
    rintro _ h4 ⟨V4, C4⟩
    refine ⟨n, by omega, k + 1, V4, by simp, by omega, ?_⟩
    rw [take_flat _ ht, ← List.append_assoc]
    exact C4
  | zero =>
    rw [List.take_of_length_le (by omega)] at C
    have x1 := C.im
    simp (disch := omega) only [L18_13, J18_5, J18_10, i, sh, sh2, shc, shi, dec, x1, b_len, hl]
    refine loop_n (fun n s h => ∃ (k : Nat) (V : LV), s = i (k : Int) ∧ k + n = zs.length ∧ MkH g h en SV ZV o V (magic ++ (two en ++ two (segs.length : Int) ++ two (zs.length : Int)) ++ segs.flatMap segH ++ (zs.take k).flatMap zerH)) (n := zs.length)
      ⟨0, V, rfl, by omega, by simpa using C⟩ ?_
    rintro n s h ⟨k, V, rfl, hk, C⟩
    cases n with
    | succ n =>
      obtain ⟨t, ht, hd⟩ := drop_at (l := zs) (k := k) (by omega)
      have hix := H.zv.ix (k := .i64) (i := k) (by omega)
      have hld := (H.lo wf C.lo).zv.ld ht
      have e2 : zE.e = 2 := rfl
      rw [e2] at hix hld
      simp only [zE] at hld
      have C1 := C.up (Fr.alloc h (.cells [i t.1, i t.2] .ex))
      have C2 := C1.up (Fr.alloc _ (.cells [i t.1, i t.2] .ex))
      simp (disch := omega) only [L18_11, i, sh, sh2, shc, shi, dec, hix, hld, b_len, bs51_2, cv58]
      refine (C2.call (newrow (l := [t.1, t.2]) _ rfl (.ex 2)) (fresh C1 _) ?_).mono ?_
      · have : ((zs.take k).flatMap zerH).length = 4 * (zs.take k).length := flat4 _ (fun _ => rfl) _
        have : (segs.flatMap segH).length = 4 * segs.length := flat4 _ (fun _ => rfl) _
        simp only [List.length_append, *, List.length_take, List.length_cons, List.length_nil, magic, two]
        omega
      rintro _ h4 ⟨V4, C4⟩
      refine ⟨n, by omega, k + 1, V4, by simp, by omega, ?_⟩
      rw [take_flat _ ht, ← List.append_assoc]
      exact C4
    | zero =>
      rw [List.take_of_length_le (by omega)] at C
      have x1 := C.im
      simp (disch := omega) only [L18_11, J18_6, J18_8, i, sh, sh2, shc, shi, dec, x1, b_len, hl]
      refine loop_n (fun n s h => ∃ (k : Nat) (V : LV), s = i (k : Int) ∧ k + n = segs.length ∧ MkH g h en SV ZV o V (magic ++ (two en ++ two (segs.length : Int) ++ two (zs.length : Int)) ++ segs.flatMap segH ++ zs.flatMap zerH ++ (segs.take k).flatMap (·.2))) (n := segs.length)
        ⟨0, V, rfl, by omega, by simpa using C⟩ ?_
      rintro n s h ⟨k, V, rfl, hk, C⟩
      cases n with
      | zero =>
        rw [List.take_of_length_le (by omega)] at C
        have x5 := C.out.at_
        simp (disch := omega) only [L18_9, J18_7, i, sh, sh2, shc, shi, dec, x5]
        have vec := C.out.vec
        exact .inl ⟨hN, V, rfl, ⟨vec.row, vec.grow, fun a ha => ⟨by have := (vec.lo a ha).1; omega, (vec.lo a ha).2⟩⟩, C.lo⟩
      | succ n =>
        obtain ⟨t, ht, hd⟩ := drop_at (l := segs) (k := k) (by omega)
        obtain ⟨⟨a0, U⟩, hs, rfl, hU⟩ := H.sb.get ht
        have hix := H.sv.ix (k := .i64) (i := k) (by rw [H.sb.len]; omega)
        have HL := H.lo wf C.lo
        have hld := HL.sv.ld hs
        have e2 : segE.e = 2 := rfl
        have cU := hU.cell
        rw [e2] at hix hld
        simp only [segE, cU, if_true] at hld
        have C1 := C.up (Fr.alloc h (.cells [i t.1, U] .ex))
        have x5 := C1.out.at_
        have hU1 : Row (h.alloc (.cells [i t.1, U] .ex)) U byteE t.2 := by
          obtain ⟨⟨a1, U1⟩, hs1, e1, hU1⟩ := (H.lo wf C1.lo).sb.get ht
          rw [hs] at hs1
          cases hs1
          exact hU1
        obtain ⟨V', h', ea, hat, O3, f3, cV, f5, nV⟩ := C1.out.push hU1 (by
          have : ((segs.take k).flatMap (·.2)).length ≤ (segs.flatMap (·.2)).length := by
            conv => rhs; rw [← List.take_append_drop k segs, List.flatMap_append, List.length_append]
            omega
          have : (zs.flatMap zerH).length = 4 * zs.length := flat4 _ (fun _ => rfl) _
          have : (segs.flatMap segH).length = 4 * segs.length := flat4 _ (fun _ => rfl) _
          have := (F.seg t (List.mem_of_getElem? ht)).2.1
          simp only [List.length_append, *, List.length_cons, List.length_nil, magic, two]
          omega)
        simp (disch := omega) only [L18_9, i, sh, sh2, shc, shi, dec, hix, hld, cU, x5, ap23 hU.not_str, ea, hat, store_o _ _ _ cV]
        refine ⟨n, by omega, k + 1, V', by simp, by omega, ?_⟩
        rw [take_flat _ ht, ← List.append_assoc]
        exact C1.to O3 f3
end Go.Proofs.Ytaofgdibpbpalaa
