/-
  tlb and its reference: they look the same.
-/
import Derived.Test.YtgncgokjbakdmaaTpC
import Derived.Test.YtgncgokjbakdmaaTlV
set_option linter.all false
namespace Go.Proofs.Ytgncgokjbakdmaa
open Go.ChangeShapes Go.WideShapes Go.ChangeAt Go.RowKit Go.Lm
set_option linter.unusedSimpArgs false
set_option maxRecDepth 10000
section
variable {F : Nat → Prop} {g h h' : LHeap} {t x : Nat} {st : TSt} {rs : RSt} {S R : Nat → Prop}
theorem openN_eq (rs : RSt) : (rs.all.filter fun p => !p.2.isEmpty).length = openN rs.all := rfl
theorem alike_inlen (A : Alike st rs) : st.harts.length = rs.harts.length := by rw [A.harts]
/-- What a hart of the reference keeps, as the law reads it. -/
theorem rkept (w : RWf rs) {HV AV : LV} {hs : List RH} {ss : List SX} (hh : hs.map (·.2) = rs.harts) (Sp : Sep R g h (RTs x rs.size HV AV hs ss)) {a : Int} {m : Nat} {q : KEnt} (hq : (rs.hart a)[m]? = some q) :
    ∃ W pa po, ixAddrL none 1 HV (.int .i64 a) = some (HV.at 1 a.toNat) ∧ loadV none (HV.at 1 a.toNat) h = some W ∧ ixAddrL none 3 W (.int .i64 (m : Int)) = some (.ptr pa po) ∧ cellO (some 2) po (h.get pa) = some (.agg (keyE.f q.1)) := by
  have hln : hs.length = rs.harts.length := by rw [← hh, List.length_map]
  by_cases hr : 0 ≤ a ∧ a < hs.length
  rotate_left
  · rw [rhart_out (by omega)] at hq; simp at hq
  obtain ⟨k, p, rfl, hk, hst, hstk⟩ := rhart_in (st := rs) hh hr
  rw [hst] at hq
  have S1 : Sep R g h (RTs x rs.size HV AV hs ss ++ []) := by rw [List.append_nil]; exact Sp
  obtain ⟨e1, e2⟩ := rh_at hk S1
  have RW := S1.row (V := p.1) (E := ktE) (l := p.2) _ (rt_h hk)
  obtain ⟨f1, pa, po, f2, f3, _⟩ := kt_at RW hq
  exact ⟨p.1, pa, po, by rw [Int.toNat_natCast]; exact e1, by rw [Int.toNat_natCast]; exact e2, by rw [f1, f2], f3⟩
theorem rkept_len (w : RWf rs) {HV AV : LV} {hs : List RH} {ss : List SX} (hh : hs.map (·.2) = rs.harts) (Sp : Sep R g h (RTs x rs.size HV AV hs ss)) {a : Int} (h0 : 0 ≤ a) (h1 : a < rs.harts.length) :
    ∃ W, ixAddrL none 1 HV (.int .i64 a) = some (HV.at 1 a.toNat) ∧ loadV none (HV.at 1 a.toNat) h = some W ∧ ∀ g', lenL Try.prog 115 W g' = some (.int .i64 (rs.hart a).length) := by
  have hln : hs.length = rs.harts.length := by rw [← hh, List.length_map]
  obtain ⟨k, p, rfl, hk, hst, hstk⟩ := rhart_in (st := rs) hh (a := a) (by omega)
  have S1 : Sep R g h (RTs x rs.size HV AV hs ss ++ []) := by rw [List.append_nil]; exact Sp
  obtain ⟨e1, e2⟩ := rh_at hk S1
  have RW := S1.row (V := p.1) (E := ktE) (l := p.2) _ (rt_h hk)
  rw [hst]
  exact ⟨p.1, by rw [Int.toNat_natCast]; exact e1, by rw [Int.toNat_natCast]; exact e2, fun g' => RW.len (P := Try.prog) ty115 (g' := g')⟩
set_option maxHeartbeats 2000000 in
theorem looks_any (A : Alike st rs) (Sp : Sep F g h [TBox t S st, RBox x R rs]) : Ok Try.prog 34 [.ptr t 0, .ptr x 0] h fun v h' => v = .bool true ∧ Fr noF h h' := by
  refine ok34 fun wf _ => ?_
  have BT : ∀ {k : LHeap}, Fr noF h k → (TBox t S st).ok k := fun f => (Sp.pure f).at 0 rfl
  have LT : ∀ {k : LHeap}, Fr noF h k → ∀ a, S a → a < k.next := fun f => (Sp.pure f).boxlt (D := TD t) (S := S) (x := st) 0 rfl
  have BR : ∀ {k : LHeap}, Fr noF h k → (RBox x R rs).ok k := fun f => (Sp.pure f).at (T := RBox x R rs) 1 rfl
  have LR : ∀ {k : LHeap}, Fr noF h k → ∀ a, R a → a < k.next := fun f => (Sp.pure f).boxlt (D := RD x) (S := R) (x := rs) 1 rfl
  obtain ⟨Ts, ⟨HV, AV, hs, ss, rfl, hh, hall, hid, w⟩, SR⟩ := box_open (BR (Fr.refl _ _)) (LR (Fr.refl _ _))
  have hln : hs.length = rs.harts.length := by rw [← hh, List.length_map]
  have h8 := w.h8
  have x0 : ∀ {k : LHeap}, Fr noF h k → k.get x = some (.cells [i rs.size, HV, AV] .ex) := fun f => (SR.pure f).cell (a := x) (vs := [i rs.size, HV, AV]) 0 rfl
  have hl := fun g' => (SR.row (V := HV) (E := slE) (l := hs.map (·.1)) 1 rfl).len (P := Try.prog) ty111 (g' := g')
  rw [List.length_map, hln] at hl
  have c1 : cellO none 1 (some (.cells [i rs.size, HV, AV] .ex)) = some HV := rfl
  simp (disch := omega) only [F34, J34_0]
  refine ⟨(Open_ok (BT (Fr.refl _ _)) (LT (Fr.refl _ _))).mono ?_, trivial⟩
  rintro _ h ⟨rfl, rfl⟩
  refine ⟨(ROpen_ok (BR (Fr.refl _ _)) (LR (Fr.refl _ _))).mono ?_, trivial⟩
  rintro _ h ⟨rfl, rfl⟩
  rw [openN_eq, A.nopn]
  have x0' := x0 (Fr.refl _ h)
  have e0 : (!((openN rs.all : Int) == (openN rs.all : Int))) = false := by simp
  simp (disch := omega) only [i, binL_neq_int, e0, sh, sh2, shi, dec, x0', c1, hl]
  refine ⟨(Harts_ok (BT (Fr.refl _ _)) (LT (Fr.refl _ _))).mono ?_, trivial⟩
  rintro _ h ⟨rfl, rfl⟩
  rw [A.harts]
  have e0 : (!((rs.harts.length : Int) == (rs.harts.length : Int))) = false := by simp
  simp (disch := omega) only [i, binL_neq_int, e0, sh, sh2, shi, dec, x0', c1, hl, J34_1, J34_3, true_and, and_true]
  refine loop_n (fun n s k => ∃ (j : Nat), s = i ((j : Int) - 1) ∧ j + n = rs.harts.length + 2 ∧ Fr noF h k) (n := rs.harts.length + 2) ⟨0, rfl, by omega, Fr.refl _ _⟩ ?_
  rintro n s k ⟨j, rfl, hj, f⟩
  have xk := x0 f
  cases n with
  | zero =>
    simp (disch := omega) only [L34_4, J34_2, i, sh, sh2, shi, dec, xk, c1, hl, b_len]
    exact ⟨trivial, f⟩
  | succ n =>
    simp (disch := omega) only [L34_4, J34_5, i, sh, sh2, shi, dec, xk, c1, hl, b_len]
    obtain ⟨a, ha⟩ : ∃ a : Int, a = (j : Int) - 1 := ⟨_, rfl⟩
    rw [← ha]
    refine (Pending_ok (BT f) (LT f) a).mono ?_
    rintro V6 h1 ⟨l, PL, R6, G6, M6, n6, f1⟩
    have f01 := f.trans f1
    have S1 := (Sp.pure f).vec V6 R6 G6 M6 f1 n6
    refine call_w (RPend_ok (BR f01) (LR f01) a) ?_
    rintro V7 h2 ⟨R7, f2⟩ _ wf2 _
    have f02 := f01.trans f2
    have S2 := S1.pure f2
    rw [← alike_pend A PL] at R7
    simp (disch := omega) only [J34_7]
    refine (Kept_ok (BT f02) (LT f02) a).mono ?_
    rintro V8 h3 ⟨O8, m8, f3⟩
    have f03 := f02.trans f3
    have S3 := S2.pure f3
    have R6 := S3.row (V := V6) (E := intE) (l := l) _ last_at
    have R7 := R7.old wf2 f3
    have R8 := O8.row
    have hl6 := fun g' => R6.len (P := Try.prog) ty24 (g' := g')
    have hl7 := fun g' => R7.len (P := Try.prog) ty24 (g' := g')
    have hl8 := fun g' => R8.len (P := Try.prog) ty50 (g' := g')
    rw [List.length_map, alike_hart A] at hl8
    rw [alike_hart A] at R8
    have x3 := x0 f03
    have hw := hart_wf (box_wf (BT f)) a
    rw [alike_hart A] at hw
    have hpl := PL.2.2.2
    have hno := (box_wf (BT f)).no
    have hb1 := (box_wf (BT f)).b1
    have e1 : intE.e = 1 := rfl
    have e2 : keyE.e = 2 := rfl
    have e0 : (!((l.length : Int) == (l.length : Int))) = false := by simp
    have e00 : (!(((rs.hart a).length : Int) == ((rs.hart a).length : Int))) = false := by simp
    -- behind the length
    have rest : J34_10 (.ptr t 0) (.ptr x 0) (i a) V6 V7 V8 (i ((rs.hart a).length : Int)) h3 (fun t35 g => ∃ m, m < n + 1 ∧ ∃ j' : Nat, t35 = i ((j' : Int) - 1) ∧ j' + m = rs.harts.length + 2 ∧ Fr noF h g) (fun v h' => v = .bool true ∧ Fr noF h h') := by
      simp (disch := omega) only [J34_10, i, binL_neq_int, e0, e00, sh, sh2, shi, dec, b_len, hl6, hl7, hl8, J34_11, J34_15]
      refine loop_n (fun n s k => ∃ (m : Nat), s = i (m : Int) ∧ m + n = l.length ∧ k = h3) (n := l.length) ⟨0, rfl, by omega, rfl⟩ ?_
      rintro n1 s h3 ⟨m, rfl, hm, rfl⟩
      cases n1 with
      | succ n1 =>
        obtain ⟨y, hy, _⟩ := drop_at (l := l) (k := m) (by omega)
        have ix6 := R6.ix (k := .i64) (i := m) (by omega)
        have ld6 := R6.ld1 hy rfl rfl
        have ix7 := R7.ix (k := .i64) (i := m) (by omega)
        have ld7 := R7.ld1 hy rfl rfl
        rw [e1] at ix6 ix7
        have ey : (!(y == y)) = false := by simp
        simp (disch := omega) only [L34_16, i, binL_neq_int, ey, sh, sh2, shi, dec, b_len, hl6, ix6, ld6, ix7, ld7]
        exact ⟨n1, by omega, m + 1, by simp, by omega, trivial⟩
      | zero =>
        simp (disch := omega) only [L34_16, J34_12, J34_13, i, sh, sh2, shi, dec, b_len, hl6]
        refine loop_n (fun n s k => ∃ (m : Nat), s = i (m : Int) ∧ m + n = (rs.hart a).length ∧ k = h3) (n := (rs.hart a).length) ⟨0, rfl, by omega, rfl⟩ ?_
        rintro n2 s h3 ⟨m, rfl, hm, rfl⟩
        cases n2 with
        | succ n2 =>
          obtain ⟨y, hy, _⟩ := drop_at (l := rs.hart a) (k := m) (by omega)
          have hy1 : ((rs.hart a).map (·.1))[m]? = some y.1 := by rw [List.getElem?_map, hy]; rfl
          have ix8 := R8.ix (k := .i64) (i := m) (by rw [List.length_map]; omega)
          have ld8 := R8.ld hy1
          rw [e2] at ix8 ld8
          obtain ⟨W, pa, po, g1, g2, g3, g4⟩ := rkept w hh (SR.pure f03) hy
          have hk := key_ne y.1 y.1
          rw [if_pos rfl] at hk
          simp (disch := omega) only [L34_14, i, sh, sh2, shi, dec, ix8, ld8, x3, c1, g1, g2, g3, g4, hk]
          exact ⟨n2, by omega, m + 1, by simp, by omega, trivial⟩
        | zero =>
          simp (disch := omega) only [L34_14, J34_6, i, sh, sh2, shi, dec]
          exact ⟨n, by omega, j + 1, by congr 1; omega, by omega, f03⟩
    simp only [i] at rest
    by_cases ha0 : 0 ≤ a
    · by_cases ha1 : a < rs.harts.length
      · obtain ⟨W, g1, g2, g3⟩ := rkept_len w hh (SR.pure f03) ha0 ha1
        simp (disch := omega) only [J34_8, J34_9, i, sh, sh2, shi, dec, x3, c1, hl, b_len, g1, g2, g3]
        exact rest
      · have hz : (rs.hart a).length = 0 := by rw [rhart_out (by omega)]; rfl
        rw [hz] at rest
        simp (disch := omega) only [J34_8, J34_9, i, sh, sh2, shi, dec, x3, c1, hl, b_len]
        exact rest
    · have hz : (rs.hart a).length = 0 := by rw [rhart_out (by omega)]; rfl
      rw [hz] at rest
      simp (disch := omega) only [J34_8, J34_9, i, sh, sh2, shi, dec]
      exact rest
end
end Go.Proofs.Ytgncgokjbakdmaa
