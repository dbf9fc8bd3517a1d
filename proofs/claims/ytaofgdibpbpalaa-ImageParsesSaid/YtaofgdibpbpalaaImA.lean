/-
  image.Parse: what it tells of any bytes.
-/
import Derived.Test.YtaofgdibpbpalaaIm9
set_option linter.all false
namespace Go.Proofs.Ytaofgdibpbpalaa
open Go.ChangeShapes Go.WideShapes Go.ChangeAt Go.RowKit Go.Lm
set_option linter.unusedSimpArgs false
/-- An image whose rows lie at or above 'base'. -/
structure ImgNew (base : Nat) (h : LHeap) (SV ZV : LV) (ss : List (Int × LV)) (segs : List Seg) (zs : List (Int × Int)) : Prop where
  img : Img h SV ZV ss segs zs
  so : ∀ a, SV.obj = some a → base ≤ a ∧ a < h.next
  zo : ∀ a, ZV.obj = some a → base ≤ a ∧ a < h.next
  ro : ∀ s ∈ ss, ∀ a, s.2.obj = some a → base ≤ a ∧ a < h.next
/-- What Parse gives back. -/
def Parsed (g : LHeap) (bs : List Int) (v : LV) (h : LHeap) : Prop := Lo g.next g h ∧
  ((parseN bs = none ∧ v = .tuple [.agg [i 0, .nils, .nils], i 230]) ∨
   ∃ en segs zs SV ZV ss, parseN bs = some (en, segs, zs) ∧ v = .tuple [.agg [i en, SV, ZV], i 0] ∧ ImgNew g.next h SV ZV ss segs zs)
theorem parse_none {bs : List Int} (h : 16384 < bs.length ∨ (headP bs).2.2.2.2 = true ∨ 16 < (headP bs).2.1 ∨ 16 < (headP bs).2.2.1) : parseN bs = none := by unfold parseN; rw [if_pos h]
theorem zset : ∀ (bd : List (List Int)) (l : List Int) (n : Nat) (b : List Int) (x : Int), l[bd.length]? = some x → (l.zip (bd ++ List.replicate (n + 1) [])).set bd.length (x, b) = l.zip ((bd ++ [b]) ++ List.replicate n [])
  | [], [], _, _, _, h => by simp at h
  | [], y :: l, n, b, x, h => by
    simp only [List.length_nil, List.getElem?_cons_zero, Option.some.injEq] at h
    subst h
    simp [List.replicate_succ]
  | c :: bd, [], _, _, _, h => by simp at h
  | c :: bd, y :: l, n, b, x, h => by
    have := zset bd l n b x (by simpa using h)
    simp only [List.cons_append, List.zip_cons_cons, List.length_cons, List.set_cons_succ, this]
theorem zget : ∀ (bd : List (List Int)) (l : List Int) (n : Nat) (x : Int), l[bd.length]? = some x → (l.zip (bd ++ List.replicate (n + 1) []))[bd.length]? = some (x, [])
  | [], [], _, _, h => by simp at h
  | [], y :: l, n, x, h => by
    simp only [List.length_nil, List.getElem?_cons_zero, Option.some.injEq] at h
    subst h
    simp [List.replicate_succ]
  | c :: bd, [], _, _, h => by simp at h
  | c :: bd, y :: l, n, x, h => by simpa using zget bd l n x (by simpa using h)
theorem bods_bytes : ∀ (l : List Int) {st : R}, Bytes st.1 → ∀ b ∈ (bods l st).1, Bytes b
  | [], _, _, b, hb => by cases hb
  | n :: l, st, h, b, hb => by
    obtain ⟨h1, h2⟩ := rT_bytes (n := n.toNat) h
    rcases List.mem_cons.1 hb with rfl | hb
    · exact h1
    · exact bods_bytes l h2 b hb
theorem two_bytes (n : Int) : Bytes (two n) := fun x hx => by
  simp only [two, List.mem_cons, List.not_mem_nil, or_false] at hx
  rcases hx with rfl | rfl <;> rw [IntKind.wrap_u8] <;> omega
theorem Bytes.app {a b : List Int} (ha : Bytes a) (hb : Bytes b) : Bytes (a ++ b) := fun x hx => (List.mem_append.1 hx).elim (ha x) (hb x)
theorem Bytes.flat {A : Type} {f : A → List Int} {l : List A} (h : ∀ x ∈ l, Bytes (f x)) : Bytes (l.flatMap f) := fun x hx => by
  obtain ⟨a, ha, h1⟩ := List.mem_flatMap.1 hx
  exact h a ha x h1
theorem makeB_bytes {en : Int} {segs : List Seg} {zs : List (Int × Int)} (h : ∀ s ∈ segs, Bytes s.2) : Bytes (makeB en segs zs) := by
  have m : Bytes magic := fun x hx => by simp only [magic, List.mem_cons, List.not_mem_nil, or_false] at hx; omega
  exact (((m.app (((two_bytes _).app (two_bytes _)).app (two_bytes _))).app (Bytes.flat fun s _ => (two_bytes _).app (two_bytes _))).app (Bytes.flat fun s _ => (two_bytes _).app (two_bytes _))).app (Bytes.flat h)
theorem obj_mem {V : LV} {a : Nat} (h : V.obj = some a) : a ∈ V.objs := by cases V <;> simp_all [LV.obj, LV.objs]
theorem ty9 : Try.prog.underlying 9 = some .string := by kernel_rfl
theorem ty5 : Try.prog.underlying 5 = some (.int .u8) := by kernel_rfl
set_option maxRecDepth 4000 in
set_option maxHeartbeats 4000000 in
theorem parse_ok {g : LHeap} {V0 : LV} {bs : List Int} (RV : Row g V0 byteE bs) (cV : Capd V0 1) (hB : Bytes bs) : Ok Try.prog 14 [V0] g (Parsed g bs) := by
  refine ok14 fun wf lt => ?_
  have hlen := RV.len ty.2.2
  have cc := RV.cell
  have hVlt : ∀ a, V0.obj = some a → a < g.next := fun a ha => lt V0 (by simp) a (by cases V0 <;> simp_all [LV.obj, LV.objs])
  have hcp : ∀ x y z : LV, cellO (some 3) 0 (some (.cells [x, y, z] .ex)) = some (.agg [x, y, z]) := fun _ _ _ => rfl
  by_cases h0 : 16384 < bs.length
  · simp (disch := omega) only [F14, J14_0, i, sh, sh2, shs, shc, shi, dec, b_len, hlen, bl27 g, ret14, hcp]
    exact ⟨(Fr.alloc g _).mono fun _ _ => False.elim, .inl ⟨parse_none (.inl h0), rfl⟩⟩
  simp (disch := omega) only [F14, J14_0, i, sh, sh2, shs, shc, shi, dec, b_len, hlen, J14_1, bl89 V0 (cells_one cc), cc, J14_2]
  generalize hg1 : (g.alloc (.cells [.int .i64 0, .nils, .nils] .ex)).alloc (.cells [V0, .bool false] .ex) = h1
  have f1 : Fr noF g h1 := by subst hg1; exact (Fr.alloc g _).alloc' _
  have hx2 : h1.get g.next = some (.cells [i 0, .nils, .nils] .ex) := by subst hg1; simp
  have n1 : h1.next = g.next + 2 := by subst hg1; rfl
  have D0 : Rd h1 (g.next + 1) V0 (bs, false) := ⟨by subst hg1; simp, RV.up wf f1 fun _ _ => id, cV, fun h => by have := hVlt _ h; omega, by omega⟩
  simp only [LHeap.next_alloc]
  refine (take_ok D0 4 (by decide)).mono ?_
  rintro _ h2 ⟨V1, _, D1, fr1, oV1, _⟩
  have B1 : Bytes (rT 4 (bs, false)).2.1 := (rT_bytes (n := 4) (st := (bs, false)) hB).2
  simp only [J14_3]
  refine (two_rd D1 B1).mono ?_
  rintro _ h3 ⟨rfl, V2, D2, fr2, oV2⟩
  have B2 := (r2_bytes B1).2.2
  have fr12 := fr1.trans fr2
  simp (disch := omega) only [i, sh, sh2, shs, shc, shi, dec, bl27_1, J14_4]
  have C0 : PaH g (h3.alloc (.cells [i (headP bs).1, .nils, .nils] .ex)) V2 (r2 (rT 4 (bs, false)).2).2 h3.next (headP bs).1 .nils .nils .nils [] [] [] := by
    have e2 := fr12.le
    have C : PaH g (h3.alloc (.cells [i (headP bs).1, .nils, .nils] .ex)) V2 (r2 (rT 4 (bs, false)).2).2 h3.next (headP bs).1 .nils .nils .nils [] [] [] := by
      refine ⟨?_, ?_, ⟨?_, ?_, D2.capd, D2.ne, ?_⟩, fun a ha => hVlt a (oV1 a (oV2 a ha)), get_alloc_eq _ _, ⟨by omega, Nat.lt_succ_self _⟩, Vec.nils _ _, Vec.nils _ _, Vec.nils _ _, ⟨by simp [LV.obj], by simp [LV.obj], by simp [LV.obj]⟩, fun a ha => (by cases ha), fun a ha => (by cases ha), trivial⟩
      · exact ((f1.mono fun _ _ => False.elim).trans (fr12.mono fun a _ e => by omega)).alloc' _
      · rw [get_alloc_ne _ _ (by omega), fr12.eq _ (by omega) (by omega)]; exact hx2
      · rw [get_alloc_ne _ _ (by have := D2.lt; omega)]; exact D2.at_
      · exact D2.row.fr fun a ha => get_alloc_ne _ _ (by have := hVlt a (oV1 a (oV2 a ha)); omega)
      · exact Nat.lt_succ_of_lt D2.lt
    exact C
  refine (two_rd C0.rd B2).mono ?_
  rintro _ h4 ⟨rfl, V3, D3, fr3, oV3⟩
  have C1 := C0.read D3 fr3 oV3
  have B3 := (r2_bytes B2).2.2
  refine (two_rd C1.rd B3).mono ?_
  rintro _ h5 ⟨rfl, V4, D4, fr4, oV4⟩
  have C2 : PaH g h5 V4 (headP bs).2.2.2 h3.next (headP bs).1 .nils .nils .nils [] [] [] := C1.read D4 fr4 oV4
  have B4 : Bytes (headP bs).2.2.2.1 := (r2_bytes B3).2.2
  have N1 : 0 ≤ (headP bs).2.1 := (r2_bytes B2).1
  have N2 : 0 ≤ (headP bs).2.2.1 := (r2_bytes B3).1
  change J14_5 V0 (.ptr g.next 0) (.ptr (g.next + 1) 0) (.ptr h3.next 0) (i (headP bs).2.1) (i (headP bs).2.2.1) h5 (Parsed g bs)
  generalize hxi : h3.next = xi at C2 ⊢
  have bad : ∀ h, PaH g h V4 (headP bs).2.2.2 xi (headP bs).1 .nils .nils .nils [] [] [] → (16384 < bs.length ∨ (headP bs).2.2.2.2 = true ∨ 16 < (headP bs).2.1 ∨ 16 < (headP bs).2.2.1) → Parsed g bs (.tuple [.agg [i 0, .nils, .nils], i 230]) (h.set g.next (.cells [i 0, .nils, .nils] .ex)) :=
    fun h C hh => ⟨C.lo.set' _ (.inl (Nat.le_refl _)), .inl ⟨parse_none hh, rfl⟩⟩
  have x4 := C2.rd.at_
  have x2 := C2.x2
  cases hbad : (headP bs).2.2.2.2 with
  | true =>
    rw [hbad] at x4
    simp (disch := omega) only [J14_5, i, sh, sh2, shs, shc, shi, dec, x4, x2, bl27 g, ret14, hcp]
    exact bad h5 C2 (.inr (.inl hbad))
  | false =>
  rw [hbad] at x4
  by_cases hs : 16 < (headP bs).2.1
  · simp (disch := omega) only [J14_5, i, sh, sh2, shs, shc, shi, dec, x4, x2, bl27 g, ret14, hcp]
    exact bad h5 C2 (.inr (.inr (.inl hs)))
  by_cases hz : 16 < (headP bs).2.2.1
  · simp (disch := omega) only [J14_5, i, sh, sh2, shs, shc, shi, dec, x4, x2, bl27 g, ret14, hcp]
    exact bad h5 C2 (.inr (.inr (.inr hz)))
  simp (disch := omega) only [J14_5, i, sh, sh2, shs, shc, shi, dec, x4, J14_6, J14_7, J14_15]
  refine loop_n (fun n s h => ∃ (k : Nat) (V : LV) (st : R) (SV X8 : LV) (dn : List (Int × Int)), s = (X8, i (k : Int)) ∧ (k : Int) + n = (headP bs).2.1 ∧ dn.length = k ∧ PaH g h V st xi (headP bs).1 SV .nils X8 (dn.map fun p => (p.1, .nils)) [] (dn.map (·.2)) ∧ Bytes st.1 ∧ pairs (headP bs).2.1.toNat (headP bs).2.2.2 = (dn ++ (pairs n st).1, (pairs n st).2)) (n := (headP bs).2.1.toNat)
    ⟨0, V4, _, .nils, .nils, [], rfl, by omega, rfl, C2, B4, by simp⟩ ?_
  rintro n s h ⟨k, V, st, SV, X8, dn, rfl, hk, hdn, C, Bs, hp⟩
  have x5 := C.im
  cases n with
  | succ n =>
    simp (disch := omega) only [L14_16, i, sh, sh2, shs, shc, shi, dec, x5]
    refine (two_rd C.rd Bs).mono ?_
    rintro _ h6 ⟨rfl, V6, D6, fr6, oV6⟩
    have C3 := C.read D6 fr6 oV6
    have B6 := (r2_bytes Bs).2.2
    obtain ⟨SV', h7, e7, cS, xi7, C4⟩ := C3.seg (r2 st).1 (by simp; omega)
    have x6 := C3.im
    have xl := C3.xl
    have x6a : (h6.alloc (.cells [i (r2 st).1, .nils] .ex)).get xi = some (.cells [i (headP bs).1, SV, .nils] .ex) := by rw [get_alloc_ne _ _ (by omega)]; exact x6
    simp (disch := omega) only [i, sh, sh2, shs, shc, shi, dec, x6, x6a, bl92, bs24, ap24, e7, store_o _ _ _ cS, xi7]
    refine (two_rd C4.rd B6).mono ?_
    rintro _ h8 ⟨rfl, V8, D8, fr8, oV8⟩
    have C5 := C4.read D8 fr8 oV8
    have B8 := (r2_bytes B6).2.2
    obtain ⟨X', h9, e9, C6⟩ := C5.siz (r2 (r2 st).2).1 (by simp; omega)
    simp (disch := omega) only [i, sh, sh2, shs, shc, shi, dec, bs51, ap51, e9]
    refine ⟨n, by omega, k + 1, V8, _, SV', X', dn ++ [((r2 st).1, (r2 (r2 st).2).1)], by simp, by omega, by simp [hdn], by simpa using C6, B8, ?_⟩
    rw [hp]
    simp [pairs]
  | zero =>
    have ep : dn = (pairs (headP bs).2.1.toNat (headP bs).2.2.2).1 ∧ st = (pairs (headP bs).2.1.toNat (headP bs).2.2.2).2 := by rw [hp]; simp [pairs]
    obtain ⟨rfl, rfl⟩ := ep
    generalize hps : pairs (headP bs).2.1.toNat (headP bs).2.2.2 = ps at C Bs hdn
    simp (disch := omega) only [L14_16, J14_8, J14_13, i, sh, sh2, shs, shc, shi, dec]
    refine loop_n (fun n s h => ∃ (k : Nat) (V : LV) (st : R) (ZV : LV) (zn : List (Int × Int)), s = i (k : Int) ∧ (k : Int) + n = (headP bs).2.2.1 ∧ zn.length = k ∧ PaH g h V st xi (headP bs).1 SV ZV X8 (ps.1.map fun p => (p.1, .nils)) zn (ps.1.map (·.2)) ∧ Bytes st.1 ∧ pairs (headP bs).2.2.1.toNat ps.2 = (zn ++ (pairs n st).1, (pairs n st).2)) (n := (headP bs).2.2.1.toNat)
      ⟨0, V, ps.2, .nils, [], rfl, by omega, rfl, C, Bs, by simp⟩ ?_
    rintro n s h ⟨k, V, st, ZV, zn, rfl, hk, hzn, C, Bs, hp⟩
    have x5 := C.im
    cases n with
    | succ n =>
      simp (disch := omega) only [L14_14, i, sh, sh2, shs, shc, shi, dec, x5]
      refine (two_rd C.rd Bs).mono ?_
      rintro _ h6 ⟨rfl, V6, D6, fr6, oV6⟩
      have C3 := C.read D6 fr6 oV6
      have B6 := (r2_bytes Bs).2.2
      have x6 := C3.im
      simp (disch := omega) only [i, sh, sh2, shs, shc, shi, dec, x6]
      refine (two_rd C3.rd B6).mono ?_
      rintro _ h8 ⟨rfl, V8, D8, fr8, oV8⟩
      have C5 := C3.read D8 fr8 oV8
      have B8 := (r2_bytes B6).2.2
      have x8 := C5.im
      have xl := C5.xl
      obtain ⟨ZV', h9, e9, cZ, xi9, C6⟩ := C5.zer (r2 st).1 (r2 (r2 st).2).1 (by omega)
      have x8a : (h8.alloc (.cells [i (r2 st).1, i (r2 (r2 st).2).1] .ex)).get xi = some (.cells [i (headP bs).1, SV, ZV] .ex) := by rw [get_alloc_ne _ _ (by omega)]; exact x8
      simp (disch := omega) only [i, sh, sh2, shs, shc, shi, dec, x8, x8a, bl94, bs25, ap25, e9, store_o _ _ _ cZ, xi9]
      refine ⟨n, by omega, k + 1, V8, _, ZV', zn ++ [((r2 st).1, (r2 (r2 st).2).1)], by simp, by omega, by simp [hzn], by simpa using C6, B8, ?_⟩
      rw [hp]
      simp [pairs]
    | zero =>
      have ep : zn = (pairs (headP bs).2.2.1.toNat ps.2).1 ∧ st = (pairs (headP bs).2.2.1.toNat ps.2).2 := by rw [hp]; simp [pairs]
      obtain ⟨rfl, rfl⟩ := ep
      generalize hzs : pairs (headP bs).2.2.1.toNat ps.2 = zs at C Bs hzn
      have l8 := C.x8.row.len ty51
      simp (disch := omega) only [L14_14, J14_9, J14_11, i, sh, sh2, shs, shc, shi, dec, b_len, l8]
      have psb : ∀ p ∈ ps.1, 0 ≤ p.1 ∧ p.1 < 65536 ∧ 0 ≤ p.2 ∧ p.2 < 65536 := by rw [← hps]; exact (pairs_bytes _ B4).2
      refine loop_n (fun n s h => ∃ (k : Nat) (V : LV) (st : R) (ss : List (Int × LV)) (bd : List (List Int)), s = i (k : Int) ∧ k + n = ps.1.length ∧ bd.length = k ∧ PbH g h V st xi (headP bs).1 SV ZV X8 ss zs.1 (ps.1.map (·.2)) ((ps.1.map (·.1)).zip (bd ++ List.replicate n [])) ∧ Bytes st.1 ∧
          bods (ps.1.map (·.2)) zs.2 = (bd ++ (bods ((ps.1.map (·.2)).drop k) st).1, (bods ((ps.1.map (·.2)).drop k) st).2)) (n := ps.1.length)
        ⟨0, V, zs.2, _, [], rfl, by omega, rfl, ⟨C, ?_, ?_⟩, Bs, by simp⟩ ?_
      · have : ∀ (l : List (Int × Int)) (m : Nat), m = l.length → All2 (SegR h) (l.map fun p => (p.1, LV.nils)) ((l.map (·.1)).zip ([] ++ List.replicate m [])) := by
          intro l
          induction l with
          | nil => intro m hm; subst hm; exact trivial
          | cons p l ih => intro m hm; subst hm; exact ⟨⟨rfl, Row.nils _ _⟩, ih _ rfl⟩
        exact this _ _ rfl
      · intro s hs a ha
        obtain ⟨p, _, rfl⟩ := List.mem_map.1 hs
        cases ha
      rintro n s h ⟨k, V, st, ss, bd, rfl, hk, hbd, C, Bs, hp⟩
      have x5 := C.pa.im
      cases n with
      | zero =>
        have ep : bd = (bods (ps.1.map (·.2)) zs.2).1 ∧ st = (bods (ps.1.map (·.2)) zs.2).2 := by
          rw [hp, List.drop_of_length_le (by simp; omega)]; simp [bods]
        have hi : imgOf bs = ((headP bs).1, (ps.1.map (·.1)).zip (bd ++ List.replicate 0 []), zs.1, st.2) := by
          simp only [imgOf, hps, hzs, List.replicate_zero, List.append_nil]
          rw [ep.1, ep.2]
        have hbb : ∀ s ∈ (imgOf bs).2.1, Bytes s.2 := fun s hs => by
          rw [hi] at hs
          simp only [List.replicate_zero, List.append_nil] at hs
          have := (List.of_mem_zip hs).2
          rw [ep.1] at this
          refine bods_bytes _ ?_ _ this
          rw [← hzs, ← hps]
          exact (pairs_bytes _ (pairs_bytes _ B4).1).1
        have hP : ¬ (16384 < bs.length ∨ (headP bs).2.2.2.2 = true ∨ 16 < (headP bs).2.1 ∨ 16 < (headP bs).2.2.1) := by
          rintro (h | h | h | h)
          · exact h0 h
          · rw [hbad] at h; cases h
          · exact hs h
          · exact hz h
        have IM : Img h SV ZV ss (imgOf bs).2.1 (imgOf bs).2.2.1 := by rw [hi]; exact ⟨C.pa.sv.row, C.sb, C.pa.zv.row⟩
        have e1 : (imgOf bs).1 = (headP bs).1 := rfl
        have e3 : st.2 = (imgOf bs).2.2.2 := by rw [hi]
        have hll : ((ps.1.map (·.2)).length : Int) = ps.1.length := by simp
        simp (disch := omega) only [L14_12, J14_10, i, sh, sh2, shs, shc, shi, dec, x5, hcp]
        refine (make_ok IM).mono ?_
        intro v h6 hM
        have fM : Lo h.next h h6 := by
          rcases hM with ⟨_, W, _, _, f⟩ | ⟨_, _, f⟩ <;> exact f
        have hxl := C.pa.xl
        have gh := C.pa.lo.le
        have x2' : h6.get g.next = some (.cells [i 0, .nils, .nils] .ex) := (fM.eq _ (by omega) (by omega)).trans C.pa.x2
        have x4' : h6.get (g.next + 1) = some (.cells [V, .bool (imgOf bs).2.2.2] .ex) := by rw [← e3]; exact (fM.eq _ C.pa.rd.lt (by have := C.pa.rd.lt; omega)).trans C.pa.rd.at_
        have x5' : h6.get xi = some (.cells [i (headP bs).1, SV, ZV] .ex) := (fM.eq _ hxl.2 (by omega)).trans x5
        have lo6 : Lo g.next g h6 := C.pa.lo.trans (fM.mono fun a _ h => Nat.le_trans gh h)
        have err : ∀ H, (H = h6) → ((imgOf bs).2.2.2 = true ∨ checkN (imgOf bs).1 (imgOf bs).2.1 (imgOf bs).2.2.1 ≠ 0 ∨ makeB (imgOf bs).1 (imgOf bs).2.1 (imgOf bs).2.2.1 ≠ bs) → Parsed g bs (.tuple [.agg [i 0, .nils, .nils], i 230]) (H.set g.next (.cells [i 0, .nils, .nils] .ex)) := by
          rintro H rfl hc
          exact ⟨lo6.set' _ (.inl (Nat.le_refl _)), .inl ⟨by unfold parseN; rw [if_neg hP, if_pos hc], rfl⟩⟩
        cases hb3 : (imgOf bs).2.2.2 with
        | true =>
          rw [hb3] at x4'
          rcases hM with ⟨_, W, rfl, _, _⟩ | ⟨_, rfl, _⟩
          · simp (disch := omega) only [i, sh, sh2, shs, shc, shi, dec, x4', x2', bl27 g, ret14, hcp]
            exact err _ rfl (.inl hb3)
          · simp (disch := omega) only [i, sh, sh2, shs, shc, shi, dec, x4', x2', bl27 g, ret14, hcp]
            exact err _ rfl (.inl hb3)
        | false =>
        rw [hb3] at x4'
        rcases hM with ⟨hN, W, rfl, vW, _⟩ | ⟨hN, rfl, _⟩
        rotate_left
        · simp (disch := omega) only [i, sh, sh2, shs, shc, shi, dec, x4', x2', bl27 g, ret14, hcp]
          exact err _ rfl (.inr (.inl fun e => absurd (hN.symm.trans e) (by decide)))
        have tW := vW.row.text (P := Try.prog) ty.2.2 ty9 ty5
        have R0 : Row h6 V0 byteE bs := RV.fr fun a ha => lo6.eq a (hVlt a ha) (by have := hVlt a ha; omega)
        have tV := R0.text (P := Try.prog) ty.2.2 ty9 ty5
        cases hq : (textOf (makeB (imgOf bs).1 (imgOf bs).2.1 (imgOf bs).2.2.1) == textOf bs) with
        | false =>
          have e1' : (headP bs).1 = (imgOf bs).1 := rfl
          simp (disch := omega) only [i, sh, sh2, shs, shc, shi, dec, x4', x2', bl27 g, ret14, hcp, e1', tW, tV, binL_neq_str, hq]
          refine err _ rfl (.inr (.inr fun e => ?_))
          rw [e] at hq
          simp at hq
        | true =>
          have e1' : (headP bs).1 = (imgOf bs).1 := rfl
          have x5' : h6.get xi = some (.cells [i (imgOf bs).1, SV, ZV] .ex) := x5'
          simp (disch := omega) only [i, sh, sh2, shs, shc, shi, dec, x4', x2', x5', ret14, hcp, e1', tW, tV, binL_neq_str, hq, C.pa.sv.row.cell, C.pa.zv.row.cell]
          have em : makeB (imgOf bs).1 (imgOf bs).2.1 (imgOf bs).2.2.1 = bs := text_inj (makeB_bytes hbb) hB (by simpa using hq)
          refine ⟨lo6.set' _ (.inl (Nat.le_refl _)), .inr ⟨(imgOf bs).1, (imgOf bs).2.1, (imgOf bs).2.2.1, SV, ZV, ss, ?_, rfl, ⟨?_, ?_, ?_, ?_⟩⟩⟩
          · unfold parseN
            rw [if_neg hP, if_neg]
            rintro (h | h | h)
            · rw [hb3] at h; cases h
            · exact h hN
            · exact h em
          · have same : ∀ {X : Type} {E : Enc X} {U : LV} {l : List X}, Row h U E l → (∀ a, U.obj = some a → g.next + 2 ≤ a ∧ a < h.next) → Row (h6.set g.next (.cells [i (imgOf bs).1, SV, ZV] .ex)) U E l := fun r hr => r.fr fun a ha => by
              have := hr a ha
              rw [get_set_ne _ _ (by omega), fM.eq a this.2 (by omega)]
            exact ⟨same IM.sv C.pa.sv.lo, IM.sb.monoM fun s t hs h => ⟨h.1, same h.2 fun a ha => ⟨(C.ro s hs a ha).1, (C.ro s hs a ha).2.1⟩⟩, same IM.zv C.pa.zv.lo⟩
          · intro a ha; have := C.pa.sv.lo a ha; exact ⟨by omega, Nat.lt_of_lt_of_le this.2 fM.le⟩
          · intro a ha; have := C.pa.zv.lo a ha; exact ⟨by omega, Nat.lt_of_lt_of_le this.2 fM.le⟩
          · intro s hs a ha; have := C.ro s hs a ha; exact ⟨by omega, Nat.lt_of_lt_of_le this.2.1 fM.le⟩
      | succ n =>
        obtain ⟨t, ht, hd⟩ := drop_at (l := ps.1) (k := k) (by omega)
        have hz2 : (ps.1.map (·.2))[k]? = some t.2 := by rw [List.getElem?_map, ht]; rfl
        have hix := C.pa.x8.row.ix (k := .i64) (i := k) (by simp; omega)
        have hld := C.pa.x8.row.ld1 hz2 rfl rfl
        have e1 : intE.e = 1 := rfl
        rw [e1] at hix
        have tb := psb t (List.mem_of_getElem? ht)
        obtain ⟨m, hm⟩ : ∃ m : Nat, t.2 = m := ⟨t.2.toNat, by omega⟩
        rw [hm] at hld hz2
        have hll : ((ps.1.map (·.2)).length : Int) = ps.1.length := by simp
        have hsl := ps.1.length
        have hkt : (ps.1.map (·.1))[k]? = some t.1 := by rw [List.getElem?_map, ht]; rfl
        obtain ⟨⟨x0, A0⟩, hs0, rfl, RA0⟩ := C.sb.get (k := bd.length) (zget bd _ n t.1 (by rw [hbd]; exact hkt))
        rw [hbd] at hs0
        have lem : (rT m st).1.length = m := rT_len m st
        have tail : ∀ (H : LHeap) (V' : LV) (e0 : Nat) (U : LV), PbH g H V' (rT m st).2 xi (headP bs).1 SV ZV X8 ss zs.1 (ps.1.map (·.2)) ((ps.1.map (·.1)).zip (bd ++ List.replicate (n + 1) [])) → H.get e0 = some (.cells [] .ex) → h.next ≤ e0 → e0 < H.next → Row H U byteE (rT m st).1 →
            ∃ A H2 H3, builtinL Try.prog .append [23, 23] [.slice e0 0 0 (.ex 0), U] H = some (A, H2) ∧ H2.get xi = some (.cells [i (headP bs).1, SV, ZV] .ex) ∧ (∃ pa po, SV.at 2 k = .ptr pa po ∧ storeV 1 (.ptr pa (po + 1)) A H2 = some H3) ∧
            ∃ j, j < n + 1 ∧ ∃ (k_1 : Nat) (V : LV) (st : R) (ss : List (Int × LV)) (bd : List (List Int)), LV.int IntKind.i64 ((k : Int) + 1) = .int .i64 (k_1 : Int) ∧ k_1 + j = ps.1.length ∧ bd.length = k_1 ∧ PbH g H3 V st xi (headP bs).1 SV ZV X8 ss zs.1 (ps.1.map (·.2)) ((ps.1.map (·.1)).zip (bd ++ List.replicate j [])) ∧ Bytes st.1 ∧
              bods (ps.1.map (·.2)) zs.2 = (bd ++ (bods ((ps.1.map (·.2)).drop k_1) st).1, (bods ((ps.1.map (·.2)).drop k_1) st).2) := by
          intro H V' e0 U CH he0 hge hlt RU
          have hxl := C.pa.xl
          have v0 : Vec byteE (g.next + 2) H (.slice e0 0 0 (.ex 0)) [] := ⟨Row.of he0 rfl rfl (Nat.zero_le _), ⟨Nat.le_refl _, fun h => by omega⟩, fun a ha => by simp only [LV.obj, Option.some.injEq] at ha; omega⟩
          obtain ⟨A, H2, eA, vA, fA, nA⟩ := v0.app (bytes := 1) RU (by simp only [List.length_nil, lem]; omega) (by omega)
          have f1 : Fr (fun a => a = e0) H H2 := fA.mono fun a _ ha => by simp only [LV.obj, Option.some.injEq] at ha; exact ha.symm
          have nob : ∀ {U : LV} {X : Type} {E : Enc X} {l : List X}, Vec E (g.next + 2) h U l → U.obj ≠ some e0 := fun v hU => by have := v.lo _ hU; omega
          have C2 := CH.fr1 f1 (by omega) (by omega) (nob C.pa.sv) (nob C.pa.zv) (nob C.pa.x8) fun s hs hU => by have := C.ro s hs _ hU; omega
          have hA : ∀ a, A.obj = some a → g.next + 2 ≤ a ∧ a < H2.next ∧ SV.obj ≠ some a := fun a ha => by
            refine ⟨(vA.lo a ha).1, (vA.lo a ha).2, fun hS => ?_⟩
            rcases nA a ha with h1 | h1
            · simp only [LV.obj, Option.some.injEq] at h1
              exact nob C.pa.sv (h1 ▸ hS)
            · have := (CH.pa.sv.lo a hS).2; omega
          have hgk : ((ps.1.map (·.1)).zip (bd ++ List.replicate (n + 1) []))[k]? = some (t.1, []) := by rw [← hbd]; exact zget bd _ n t.1 (by rw [hbd]; exact hkt)
          obtain ⟨pa, po, H3, e5, e6, C3⟩ := C2.body hs0 hgk (by simpa using vA.row) hA RA0.cell
          refine ⟨A, H2, H3, by rw [ap23 RU.not_str]; exact eA, C2.pa.im, ⟨pa, po, e5, e6⟩, n, by omega, k + 1, V', (rT m st).2, ss.set k (t.1, A), bd ++ [(rT m st).1], by simp, by omega, by simp [hbd], ?_, (rT_bytes Bs).2, ?_⟩
          · have ez := zset bd (ps.1.map (·.1)) n (rT m st).1 t.1 (by rw [hbd]; exact hkt)
            rw [hbd] at ez
            rw [← ez]
            exact C3
          · rw [hp, List.drop_eq_getElem_cons (l := ps.1.map (·.2)) (by simp; omega)]
            have : (ps.1.map (·.2))[k]'(by simp; omega) = (m : Int) := (List.getElem?_eq_some_iff.1 hz2).2
            rw [this]
            simp [bods]
        have hxl := C.pa.xl
        have nV : ∀ {V' : LV} {U : LV}, True := trivial
        have hixs := C.pa.sv.row.ix (k := .i64) (i := k) (List.getElem?_eq_some_iff.1 hs0).1
        have e2 : segE.e = 2 := rfl
        rw [e2] at hixs
        simp (disch := omega) only [L14_12, i, sh, sh2, shs, shc, shi, dec, hix, hld, x5, bs23_0, hixs]
        refine ⟨?_, ?_⟩
        · have C1 := C.up (Fr.alloc h (.cells [] .ex))
          have x5a := C1.pa.im
          refine ⟨by rw [x5a]; rfl, (take_ok C1.pa.rd m (by omega)).mono ?_⟩
          rintro U h6 ⟨V6, RU, D6, fr6, oV6, nU6⟩
          have C2 := C1.read D6 fr6 oV6
          have x6 := C2.pa.im
          obtain ⟨A, H2, H3, q1, q2, ⟨pa, po, q3, q4⟩, q5⟩ := tail h6 V6 h.next U C2 ((fr6.eq _ (by simp only [LHeap.next_alloc]; omega) (by have := C.pa.lo.le; omega)).trans (get_alloc_eq _ _)) (Nat.le_refl _) (Nat.lt_of_lt_of_le (Nat.lt_succ_self _) fr6.le) RU
          simp (disch := omega) only [i, sh, sh2, shs, shc, shi, dec, x6, q1, q2, q3, q4]
          exact q5
        · refine call_w (take_ok C.pa.rd m (by omega)) ?_
          rintro U h6 ⟨V6, RU, D6, fr6, oV6, nU6⟩ _ _ hUo
          have C2 := C.read D6 fr6 oV6
          have x6 := C2.pa.im
          have C3 := C2.up (Fr.alloc h6 (.cells [] .ex))
          have x7 := C3.pa.im
          obtain ⟨A, H2, H3, q1, q2, ⟨pa, po, q3, q4⟩, q5⟩ := tail (h6.alloc (.cells [] .ex)) V6 h6.next U C3 (get_alloc_eq _ _) fr6.le (Nat.lt_succ_self _) (RU.fr fun a ha => get_alloc_ne _ _ fun e => by have := hUo a (obj_mem ha); omega)
          simp (disch := omega) only [i, sh, sh2, shs, shc, shi, dec, x6, x7, q1, q2, q3, q4]
          exact q5
end Go.Proofs.Ytaofgdibpbpalaa
