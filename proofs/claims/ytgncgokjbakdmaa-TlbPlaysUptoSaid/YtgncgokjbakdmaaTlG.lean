/-
  parapetlaw07.TlbApart returns true: the law.
-/
import Derived.Test.YtgncgokjbakdmaaTlF
set_option linter.all false
namespace Go.Proofs.Ytgncgokjbakdmaa
open Go.ChangeShapes Go.WideShapes Go.ChangeAt Go.RowKit Go.Lm
set_option linter.unusedSimpArgs false
section
variable {F : Nat → Prop} {g h h' : LHeap} {t u : Nat} {st : TSt} {S : Nat → Prop}
theorem st7 (h : LHeap) (o : OpX) : ∃ N, newL (.agg [.int .i64 0, .int .i64 0, .int .i64 0, .int .i64 0, .int .u32 0, .int .i64 0, .nils]) h = some (.ptr h.next 0, N) ∧ storeV 7 (.ptr h.next 0) (.agg (opE.f o)) N = some (h.alloc (.cells (opE.f o) .ex)) := by
  refine ⟨_, new_agg _ _ (by simp [LV.cell]), ?_⟩
  have e := store_agg' (E := opE) h.next 0 o (h.alloc (.cells [.int .i64 0, .int .i64 0, .int .i64 0, .int .i64 0, .int .u32 0, .int .i64 0, .nils] .ex))
  have e7 : opE.e = 7 := rfl
  rw [e7] at e
  rw [e]
  simp only [storeCellsL, get_alloc_eq]
  rw [if_pos ⟨by decide, by rw [opE.len]; exact Nat.le_refl _, List.all_eq_true.2 fun v hv => opE.cell o v hv⟩, alloc_set']
  rfl
theorem op_c (o : OpX) : cellO none 0 (some (.cells (opE.f o) .ex)) = some (i o.kind) ∧ cellO none 1 (some (.cells (opE.f o) .ex)) = some (i o.hart) ∧ cellO (some 2) 2 (some (.cells (opE.f o) .ex)) = some (.agg (keyE.f o.key)) ∧ cellO none 2 (some (.cells (opE.f o) .ex)) = some (i o.key.1) ∧ cellO none 4 (some (.cells (opE.f o) .ex)) = some (u32V o.e) ∧ cellO none 5 (some (.cells (opE.f o) .ex)) = some (i o.n) ∧ cellO none 6 (some (.cells (opE.f o) .ex)) = some (if o.T.cell then o.T else .nils) :=
  ⟨rfl, rfl, rfl, rfl, rfl, rfl, rfl⟩
theorem hart_fill (st : TSt) (a b : Int) (q : AKey) (e : Int) : (fillOp st a q e).hart b = if st.inR a ∧ b = a then fillK st.size (st.hart a) q e else st.hart b := by
  unfold fillOp
  by_cases h : st.inR a
  · rw [if_pos h, hart_set h]; simp [h]
  · rw [if_neg h, if_neg fun hh => h hh.1]
theorem hart_flush (st : TSt) (a b sp : Int) : (flushOp st a sp).hart b = if st.inR a ∧ b = a then goneK (st.hart a) sp else st.hart b := by
  unfold flushOp
  by_cases h : st.inR a
  · rw [if_pos h, hart_set h]; simp [h]
  · rw [if_neg h, if_neg fun hh => h hh.1]
theorem fill_size (st : TSt) (a : Int) (q : AKey) (e : Int) : (fillOp st a q e).size = st.size := by unfold fillOp; split <;> rfl
theorem flush_size (st : TSt) (a sp : Int) : (flushOp st a sp).size = st.size := by unfold flushOp; split <;> rfl
/-- Both stand the same at one hart. -/
structure Twin (a : Int) (s1 s2 : TSt) : Prop where
  l1 : s1.harts.length = 3
  l2 : s2.harts.length = 3
  z : s1.size = s2.size
  e : s1.hart a = s2.hart a
theorem Twin.inR {a b : Int} {s1 s2 : TSt} (T : Twin a s1 s2) : s1.inR b ↔ s2.inR b := by unfold TSt.inR; rw [T.l1, T.l2]
theorem Twin.fill {a b : Int} {s1 s2 : TSt} (T : Twin a s1 s2) (q : AKey) (e : Int) : Twin a (fillOp s1 b q e) (if b = a then fillOp s2 b q e else s2) := by
  by_cases h : b = a
  · subst h
    rw [if_pos rfl]
    refine ⟨by rw [fillOp_len, T.l1], by rw [fillOp_len, T.l2], by rw [fill_size, fill_size, T.z], ?_⟩
    rw [hart_fill, hart_fill, T.e, T.z]
    by_cases hr : s1.inR b
    · rw [if_pos ⟨hr, rfl⟩, if_pos ⟨T.inR.1 hr, rfl⟩]
    · rw [if_neg fun hh => hr hh.1, if_neg fun hh => hr (T.inR.2 hh.1)]
  · rw [if_neg h]
    refine ⟨by rw [fillOp_len, T.l1], T.l2, by rw [fill_size, T.z], ?_⟩
    rw [hart_fill, if_neg fun hh => h hh.2.symm, T.e]
theorem Twin.flush {a b : Int} {s1 s2 : TSt} (T : Twin a s1 s2) (sp : Int) : Twin a (flushOp s1 b sp) (if b = a then flushOp s2 b sp else s2) := by
  by_cases h : b = a
  · subst h
    rw [if_pos rfl]
    refine ⟨by rw [flushOp_len, T.l1], by rw [flushOp_len, T.l2], by rw [flush_size, flush_size, T.z], ?_⟩
    rw [hart_flush, hart_flush, T.e]
    by_cases hr : s1.inR b
    · rw [if_pos ⟨hr, rfl⟩, if_pos ⟨T.inR.1 hr, rfl⟩]
    · rw [if_neg fun hh => hr hh.1, if_neg fun hh => hr (T.inR.2 hh.1)]
  · rw [if_neg h]
    refine ⟨by rw [flushOp_len, T.l1], T.l2, by rw [flush_size, T.z], ?_⟩
    rw [hart_flush, if_neg fun hh => h hh.2.symm, T.e]
theorem u32_ne (a : Int) : binL Try.prog .neq 42 false (u32V a) (u32V a) = some (.bool false) := by
  rw [u32V, binL_neq_int]; simp
set_option maxRecDepth 10000 in
set_option maxHeartbeats 2000000 in
theorem apart_any {V : LV} {ops : List OpX} (R : Row g V opE ops) (hl : ops.length < 9223372036854775808) (a : Int) : Ok Try.prog 6 [V, i a] g fun v _ => v = .bool true := by
  refine ok6 fun wf _ => ?_
  simp (disch := omega) only [F6, J6_0]
  refine (New_ok 3 4).mono ?_
  rintro _ h1 (⟨hn, _⟩ | ⟨_, t, S, rfl, B, f1, nw⟩)
  · omega
  have S1 : Sep noF g h1 [TBox t S (newT 3 4)] := (Sep.start noF g).add _ f1 B nw
  simp (disch := omega) only [J6_1, i, sh, sh2]
  refine (New_ok 3 4).mono ?_
  rintro _ h2 (⟨hn, _⟩ | ⟨_, u, Su, rfl, Bu, f2, nwu⟩)
  · omega
  have S2 : Sep noF g h2 [TBox t S (newT 3 4), TBox u Su (newT 3 4)] := S1.add (TBox u Su (newT 3 4)) f2 Bu nwu
  have hlen := R.len (P := Try.prog) ty35
  simp (disch := omega) only [J6_2, i, sh, sh2, shi, dec, nil_p ty36 true]
  refine lives_pure.to ?_
  simp (disch := omega) only [sh, sh2, J6_3, J6_10]
  refine loop_n (fun n s h => ∃ (k : Nat) (S Su : Nat → Prop) (s1 s2 : TSt), s = i (k : Int) ∧ k + n = ops.length ∧ Twin a s1 s2 ∧ Sep noF g h [TBox t S s1, TBox u Su s2]) (n := ops.length) ⟨0, S, Su, _, _, rfl, by omega, ⟨rfl, rfl, rfl, rfl⟩, S2⟩ ?_
  rintro n s h ⟨k, S, Su, s1, s2, rfl, hk, T, Sk⟩
  cases n with
  | succ n =>
    obtain ⟨o, ho, hd⟩ := drop_at (l := ops) (k := k) (by omega)
    obtain ⟨ix, pa, off, hat, l0, l1, l2, l3, l4, l7⟩ := op_at (R.old wf Sk.fr) ho
    obtain ⟨N, n1, n2⟩ := st7 h o
    have Sc := Sk.new (opE.f o)
    obtain ⟨c0, c1, c2, c3, c4, _, _⟩ := op_c o
    have xc := Sc.cell 2 rfl
    simp (disch := omega) only [L6_11, J6_12, i, sh, sh2, shi, dec, b_len, hlen, ix, hat, l7, n1, n2, shc]
    -- behind an op
    have fin : ∀ {h : LHeap} {c : Nat} {S Su : Nat → Prop} {s1 s2 : TSt}, Twin a s1 s2 → Sep noF g h [TBox t S s1, TBox u Su s2, Thing.cells c (opE.f o)] → ∃ m, m < n + 1 ∧ ∃ (k' : Nat) (S Su : Nat → Prop) (s1 s2 : TSt), LV.int .i64 ((k : Int) + 1) = i (k' : Int) ∧ k' + m = ops.length ∧ Twin a s1 s2 ∧ Sep noF g h [TBox t S s1, TBox u Su s2] := fun {h c S Su s1 s2} T Sx => ⟨n, by omega, k + 1, S, Su, s1, s2, by simp, by omega, T, Sx.init (Ts := [_, _])⟩
    by_cases h2 : o.kind = 2
    · simp (disch := omega) only [J6_14, i, sh, sh2, shi, dec, xc, c0, c1, c2, c4]
      refine (Fill_ok' (Sc.at 0 rfl) (Sc.boxlt 0 rfl) o.hart o.key o.e).mono ?_
      rintro _ h3 ⟨_, A⟩
      obtain ⟨S', S3⟩ := Sc.call 0 rfl A
      have x3 := S3.cell 2 rfl
      by_cases ha : o.hart = a
      · simp (disch := omega) only [i, sh, sh2, shi, dec, x3, c1, c2, c4]
        refine (Fill_ok' (S3.at (T := TBox u Su s2) 1 rfl) (S3.boxlt (D := TD u) (S := Su) (x := s2) 1 rfl) o.hart o.key o.e).mono ?_
        rintro _ h4 ⟨_, A⟩
        obtain ⟨Su', S4⟩ := S3.call (D := TD u) (S := Su) (x := s2) 1 rfl A
        have x4 := S4.cell 2 rfl
        have T2 := T.fill (b := o.hart) o.key o.e
        rw [if_pos ha] at T2
        simp (disch := omega) only [J6_15, J6_13, i, sh, sh2, shi, dec, x4, c0]
        exact fin T2 S4
      · have T2 := T.fill (b := o.hart) o.key o.e
        rw [if_neg ha] at T2
        simp (disch := omega) only [J6_15, J6_13, i, sh, sh2, shi, dec, x3, c0, c1]
        exact fin T2 S3
    by_cases h3 : o.kind = 3
    · simp (disch := omega) only [J6_14, J6_15, i, sh, sh2, shi, dec, xc, c0, c1, c3]
      refine (Flush_ok' (Sc.at 0 rfl) (Sc.boxlt 0 rfl) o.hart o.key.1).mono ?_
      rintro _ h3 ⟨_, A⟩
      obtain ⟨S', S3⟩ := Sc.call 0 rfl A
      have x3 := S3.cell 2 rfl
      by_cases ha : o.hart = a
      · simp (disch := omega) only [i, sh, sh2, shi, dec, x3, c1, c3]
        refine (Flush_ok' (S3.at (T := TBox u Su s2) 1 rfl) (S3.boxlt (D := TD u) (S := Su) (x := s2) 1 rfl) o.hart o.key.1).mono ?_
        rintro _ h4 ⟨_, A⟩
        obtain ⟨Su', S4⟩ := S3.call (D := TD u) (S := Su) (x := s2) 1 rfl A
        have T2 := T.flush (b := o.hart) o.key.1
        rw [if_pos ha] at T2
        simp (disch := omega) only [J6_13, i, sh, sh2, shi, dec]
        exact fin T2 S4
      · have T2 := T.flush (b := o.hart) o.key.1
        rw [if_neg ha] at T2
        simp (disch := omega) only [J6_13, i, sh, sh2, shi, dec, x3, c1]
        exact fin T2 S3
    · simp (disch := omega) only [J6_14, J6_15, J6_13, i, sh, sh2, shi, dec, xc, c0]
      exact fin T Sc
  | zero =>
    simp (disch := omega) only [L6_11, J6_4, i, sh, sh2, shi, dec, b_len, hlen]
    refine (Kept_ok (Sk.at 0 rfl) (Sk.boxlt 0 rfl) a).mono ?_
    rintro V1 h1 ⟨O1, m1, f1⟩
    have S1 := Sk.vec V1 O1.row O1.grow m1 f1 O1.lo
    refine (Kept_ok (S1.at (T := TBox u Su s2) 1 rfl) (S1.boxlt (D := TD u) (S := Su) (x := s2) 1 rfl) a).mono ?_
    rintro V2 h2 ⟨O2, m2, f2⟩
    have S2 := S1.vec V2 O2.row O2.grow m2 f2 O2.lo
    have tw := box_wf (Sk.at (T := TBox t S s1) 0 rfl)
    have hw := hart_wf tw a
    have he := T.e
    generalize hkl : s1.hart a = l at *
    rw [← he] at S2
    have hl1 := (S2.row (E := keyE) (V := V1) (l := l.map fun p : KEnt => p.1) 2 rfl).len (P := Try.prog) ty50
    have hl2 := (S2.row (E := keyE) (V := V2) (l := l.map fun p : KEnt => p.1) 3 rfl).len (P := Try.prog) ty50
    rw [List.length_map] at hl1 hl2
    simp (disch := omega) only [J6_5, J6_6, J6_8, i, sh, sh2, shi, dec, b_len, hl1, hl2]
    refine loop_n (fun nn s h => ∃ (j : Nat), s = i (j : Int) ∧ j + nn = l.length ∧ Sep noF g h [TBox t S s1, TBox u Su s2, Thing.vec keyE V1 (l.map fun p : KEnt => p.1), Thing.vec keyE V2 (l.map fun p : KEnt => p.1)]) (n := l.length) ⟨0, rfl, by omega, S2⟩ ?_
    rintro nn s h5 ⟨j, rfl, hj, S5⟩
    cases nn with
    | zero => simp (disch := omega) only [L6_9, J6_7, i, sh, sh2, shi, dec, b_len, hl1]
    | succ nn =>
      obtain ⟨p, hp, _⟩ := drop_at (l := l) (k := j) (by omega)
      have hp1 : (l.map fun p : KEnt => p.1)[j]? = some p.1 := by rw [List.getElem?_map, hp]; rfl
      have R1 := S5.row (E := keyE) (V := V1) (l := l.map fun p : KEnt => p.1) 2 rfl
      have R2 := S5.row (E := keyE) (V := V2) (l := l.map fun p : KEnt => p.1) 3 rfl
      have ix1 := R1.ix (k := .i64) (i := j) (by rw [List.length_map]; omega)
      have ix2 := R2.ix (k := .i64) (i := j) (by rw [List.length_map]; omega)
      have ld1 := R1.ld hp1
      have e2 : keyE.e = 2 := rfl
      rw [e2] at ix1 ix2 ld1
      obtain ⟨ev, hev⟩ := Option.isSome_iff_exists.1 (lkp_iff.2 (List.mem_of_getElem? hp1))
      simp (disch := omega) only [L6_9, i, sh, sh2, shi, dec, b_len, hl1, ix1, ld1]
      refine (Look_ok (S5.at (T := TBox t S s1) 0 rfl) (S5.boxlt (D := TD t) (S := S) (x := s1) 0 rfl) a p.1).mono ?_
      rintro _ h6 ⟨rfl, f6⟩
      have S6 := S5.pure f6
      have R2 := S6.row (E := keyE) (V := V2) (l := l.map fun p : KEnt => p.1) 3 rfl
      have ld2 := R2.ld hp1
      rw [e2] at ld2
      simp (disch := omega) only [i, sh, sh2, shi, dec, ix2, ld2]
      refine (Look_ok (S6.at (T := TBox u Su s2) 1 rfl) (S6.boxlt (D := TD u) (S := Su) (x := s2) 1 rfl) a p.1).mono ?_
      rintro _ h7 ⟨rfl, f7⟩
      have S7 := S6.pure f7
      have ld3 := (S7.row (E := keyE) (V := V1) (l := l.map fun p : KEnt => p.1) 2 rfl).ld hp1
      have ld4 := (S7.row (E := keyE) (V := V2) (l := l.map fun p : KEnt => p.1) 3 rfl).ld hp1
      rw [e2] at ld3 ld4
      have hne := key_ne p.1 p.1
      rw [if_pos rfl] at hne
      have hun := u32_ne ev
      rw [hkl, ← he, hev]
      simp (disch := omega) only [Option.getD_some, Option.isSome_some, i, sh, sh2, shi, dec, ix1, ix2, ld3, ld4, hne, hun]
      exact ⟨nn, by omega, j + 1, by simp, by omega, S7⟩
end
end Go.Proofs.Ytgncgokjbakdmaa
