/-
  The law BufHolds.
-/
import Derived.Test.YtoajcekgoalhjaaBfE
set_option linter.all false
namespace Go.Proofs.Ytoajcekgoalhjaa
open Go.ChangeShapes Go.WideShapes Go.ChangeAt Go.RowKit Go.Lm
set_option linter.unusedSimpArgs false
set_option maxRecDepth 10000
section
variable {F : Nat → Prop} {g h h' : LHeap} {Ts Us Zs : List Thing}
theorem dty_ord {st : CSt} (w : CWf st) {n : Int} (h : st.dty n = true) : n ∈ st.ord := by
  rw [w.mem]
  cases hb : st.bs n with
  | none => simp [CSt.dty, hb] at h
  | some p => rfl
/-- No two of a row's elements are alike: the law's loops find none. -/
theorem pairs_ok {V : LV} {l : List Int} (R : Row h V intE l) (nd : l.Nodup) (hl : l.length ≤ 1024) {x0 x1 x7 x9 x11 : LV} {N7 : LV → LHeap → Prop} {K : LV → LHeap → Prop} (hK : J6_15 x0 x1 x7 x9 x11 V h N7 K) : J6_14 x0 x1 x7 x9 x11 V h N7 K := by
  have hln := R.len (P := Try.prog) ty50
  have he : intE.e = 1 := rfl
  simp (disch := omega) only [J6_14, J6_24]
  refine loop_n (fun n s h1 => ∃ j : Nat, s = i (j : Int) ∧ j + n = l.length ∧ h1 = h) (n := l.length) ⟨0, rfl, by omega, rfl⟩ ?_
  rintro n s h ⟨j, rfl, hj, rfl⟩
  cases n with
  | zero =>
    simp (disch := omega) only [L6_25, i, sh, sh2, shi, dec, b_len, hln]
    exact hK
  | succ n =>
    obtain ⟨y, hy⟩ : ∃ y, l[j]? = some y := ⟨l[j]'(by omega), List.getElem?_eq_getElem (by omega)⟩
    have hix := R.ix (k := .i64) (i := j) (by omega)
    have hld := R.ld1 hy rfl rfl
    rw [he] at hix
    simp (disch := omega) only [L6_25, J6_26, J6_28, i, sh, sh2, shi, dec, b_len, hln]
    refine loop_n (fun n s h1 => ∃ q : Nat, s = i (q : Int) ∧ q + n = j ∧ h1 = h) (n := j) ⟨0, rfl, by omega, rfl⟩ ?_
    rintro n' s h ⟨q, rfl, hq, rfl⟩
    cases n' with
    | zero =>
      simp (disch := omega) only [L6_29, J6_27, i, sh, sh2, shi, dec]
      exact ⟨n, by omega, j + 1, by simp, by omega, trivial⟩
    | succ n' =>
      obtain ⟨z, hz⟩ : ∃ z, l[q]? = some z := ⟨l[q]'(by omega), List.getElem?_eq_getElem (by omega)⟩
      have hix' := R.ix (k := .i64) (i := q) (by omega)
      have hld' := R.ld1 hz rfl rfl
      rw [he] at hix'
      have hne : ¬ z = y := fun e => by
        obtain ⟨a1, a2⟩ := List.getElem?_eq_some_iff.1 hz
        obtain ⟨b1, b2⟩ := List.getElem?_eq_some_iff.1 hy
        have := (List.getElem_inj nd).1 (a2.trans (e.trans b2.symm))
        omega
      simp (disch := omega) only [L6_29, i, sh, sh2, shi, dec, hix, hix', hld, hld']
      exact ⟨n', by omega, q + 1, by simp, by omega, trivial⟩
/-- Each element of one row is in another: the law's loops find it. -/
theorem subs_ok {V U : LV} {l m : List Int} (R : Row h V intE l) (Q : Row h U intE m) (hl : l.length ≤ 1024) (hm : m.length ≤ 1024) (hs : ∀ x ∈ m, x ∈ l) {x0 x1 x7 x9 : LV} {N7 : LV → LHeap → Prop} {K : LV → LHeap → Prop} (hK : J6_9 x0 x1 x7 x9 h N7 K) : J6_15 x0 x1 x7 x9 U V h N7 K := by
  have hln := R.len (P := Try.prog) ty50
  have hmn := Q.len (P := Try.prog) ty50
  have he : intE.e = 1 := rfl
  simp (disch := omega) only [J6_15, J6_16]
  refine loop_n (fun n s h1 => ∃ j : Nat, s = i (j : Int) ∧ j + n = m.length ∧ h1 = h) (n := m.length) ⟨0, rfl, by omega, rfl⟩ ?_
  rintro n s h ⟨j, rfl, hj, rfl⟩
  cases n with
  | zero =>
    simp (disch := omega) only [L6_17, i, sh, sh2, shi, dec, b_len, hmn]
    exact hK
  | succ n =>
    obtain ⟨y, hy⟩ : ∃ y, m[j]? = some y := ⟨m[j]'(by omega), List.getElem?_eq_getElem (by omega)⟩
    have hix := Q.ix (k := .i64) (i := j) (by omega)
    have hld := Q.ld1 hy rfl rfl
    rw [he] at hix
    have hyl := hs y (List.mem_of_getElem? hy)
    simp (disch := omega) only [L6_17, J6_18, J6_20, J6_22, i, sh, sh2, shi, dec, b_len, hmn]
    refine loop_n (fun n s h1 => ∃ q : Nat, s = (.bool (decide (y ∈ l.take q)), i (q : Int)) ∧ q + n = l.length ∧ h1 = h) (n := l.length) ⟨0, by simp, by omega, rfl⟩ ?_
    rintro n' s h ⟨q, rfl, hq, rfl⟩
    cases n' with
    | zero =>
      rw [List.take_of_length_le (by omega), decide_eq_true hyl]
      simp (disch := omega) only [L6_23, J6_21, J6_19, i, sh, sh2, shi, dec, b_len, hln]
      exact ⟨n, by omega, j + 1, by simp, by omega, trivial⟩
    | succ n' =>
      obtain ⟨z, hz⟩ : ∃ z, l[q]? = some z := ⟨l[q]'(by omega), List.getElem?_eq_getElem (by omega)⟩
      have hix' := R.ix (k := .i64) (i := q) (by omega)
      have hld' := R.ld1 hz rfl rfl
      rw [he] at hix'
      have htk : decide (y ∈ l.take (q + 1)) = (decide (y ∈ l.take q) || decide (z = y)) := by
        rw [take_snoc hz]
        by_cases h1 : y ∈ l.take q <;> by_cases h2 : z = y <;> simp [h1, h2, eq_comm]
        all_goals first | exact h2 | exact fun e => h2 e.symm
      by_cases hin : y ∈ l.take q
      · rw [decide_eq_true hin] at htk ⊢
        simp (disch := omega) only [L6_23, i, sh, sh2, shi, dec, b_len, hln, hix, hix', hld, hld']
        exact ⟨n', by omega, q + 1, by rw [htk]; simp, by omega, trivial⟩
      · rw [decide_eq_false hin] at htk ⊢
        simp (disch := omega) only [L6_23, i, sh, sh2, shi, dec, b_len, hln, hix, hix', hld, hld']
        exact ⟨n', by omega, q + 1, by rw [htk]; simp; rfl, by omega, trivial⟩
theorem holds_any {V : LV} {ops : List OpX} (R : Row g V opE ops) (hl : ops.length * 32 ≤ 140737488351232) (r : Int) : Ok Try.prog 6 [.int .i64 r, V] g fun v _ => v = .bool true := by
  refine ok6 fun wf _ => ?_
  simp (disch := omega) only [F6, J6_0]
  refine (newD_ok g (Sep.start noF g)).mono ?_
  rintro _ h1 ⟨d, Q1, rfl, S1⟩
  simp (disch := omega) only [sh, sh2, shi, dec, J6_1, nil_p ty23 true]
  refine lives_pure.to ?_
  simp (disch := omega) only [sh, sh2, J6_2]
  refine (CNew_ok S1 r).mono ?_
  rintro _ h3 (⟨rfl, hr1, rfl⟩ | ⟨hr1, c, P1, rfl, S3⟩)
  · simp (disch := omega) only [i, sh, sh2, shi, dec, J6_3, nil_p ty28 true]
  simp (disch := omega) only [i, sh, sh2, shi, dec, J6_3, J6_4, J6_6, nil_p ty28 true]
  have hlen := R.len (P := Try.prog) ty22
  refine loop_n (fun n s h => ∃ (k : Nat) (P : Nat → Prop) (st : CSt), s = i (k : Int) ∧ k + n = ops.length ∧ Sep noF g h [CBox d c P st] ∧ st.room = r) (n := ops.length) ⟨0, _, _, rfl, by omega, S3, rfl⟩ ?_
  rintro n s h ⟨k, P, st, rfl, hk, Sk, hrm⟩
  cases n with
  | zero => simp (disch := omega) only [L6_7, J6_5, i, sh, sh2, shi, dec, b_len, hlen]
  | succ n =>
    obtain ⟨o, ho, hd⟩ := drop_at (l := ops) (k := k) (by omega)
    have RO := R.old wf Sk.fr
    have hix := RO.ix (k := .i64) (i := k) (by omega)
    have hld := RO.ld ho
    have he : opE.e = 4 := rfl
    rw [he] at hix hld
    obtain ⟨N, n1, n2⟩ := new_op h o
    obtain ⟨o0, o1, o2⟩ := op_c o
    have S5 : Sep noF g (h.alloc (.cells (opE.f o) .ex)) [CBox d c P st, Thing.cells h.next (opE.f o)] := Sk.new (opE.f o)
    simp (disch := omega) only [L6_7, J6_8, J6_10, i, sh, sh2, shi, dec, b_len, hlen, hix, hld, n1, n2]
    refine (CDirty_ok (d := d) (c := c) (S := P) (st := st) (S5.at 0 rfl) (S5.boxlt (D := CD d c) (S := P) (x := st) 0 rfl)).mono ?_
    rintro U h6 ⟨l, P', cU, ndl, hdl, hll, SA⟩
    have S6 : Sep noF g h6 ([CBox d c P' st, Thing.vec intE U l] ++ [Thing.cells h.next (opE.f o)]) := S5.callF (T := CBox d c P st) rfl SA
    have ht6 := S6.cell (a := h.next) (vs := opE.f o) 2 rfl
    -- what is looked at behind each call
    have look : ∀ {h7 : LHeap} {P7 : Nat → Prop} {st7 : CSt}, Sep noF g h7 [CBox d c P7 st7, Thing.vec intE U l] → st7.room = r → (∀ m, st.dty m = true → st7.dty m = true) → J6_12 (.int .i64 r) V (.ptr c 0) (.int .i64 k) U h7 (fun s' h' => ∃ m, m < n + 1 ∧ ∃ (k' : Nat) (P : Nat → Prop) (st : CSt), s' = i (k' : Int) ∧ k' + m = ops.length ∧ Sep noF g h' [CBox d c P st] ∧ st.room = r) (fun v _ => v = .bool true) := by
      intro h7 P7 st7 S7 hr7 hd7
      simp (disch := omega) only [J6_12]
      refine (CKept_ok (d := d) (c := c) (S := P7) (st := st7) (S7.at 0 rfl) (S7.boxlt (D := CD d c) (S := P7) (x := st7) 0 rfl)).mono ?_
      rintro W h8 ⟨w7, cW, SB⟩
      have S8 : Sep noF g h8 ([CBox d c P7 st7, Thing.vec intE W st7.ord] ++ [Thing.vec intE U l]) := S7.callF (T := CBox d c P7 st7) rfl SB
      have RW := S8.row (V := W) (E := intE) (l := st7.ord) 1 rfl
      have RU := S8.row (V := U) (E := intE) (l := l) 2 rfl
      have hle := w7.le
      have hr2 := w7.r2
      have hlw := RW.len (P := Try.prog) ty50
      simp (disch := omega) only [J6_13, i, sh, sh2, shi, dec, b_len, hlw]
      refine pairs_ok RW w7.nd (by omega) (subs_ok RW RU (by omega) hll (fun x hx => dty_ord w7 (hd7 x ((hdl x).1 hx))) ?_)
      simp (disch := omega) only [J6_9, i, sh, sh2, shi, dec]
      exact ⟨n, by omega, k + 1, P7, st7, by simp, by omega, S8.sub (.cons₂ _ (List.nil_sublist _)), hr7⟩
    by_cases k1 : o.k = 1
    · simp (disch := omega) only [J6_11, i, sh, sh2, shi, dec, ht6, o0, o1, o2]
      refine (CRead_ok (d := d) (c := c) (S := P') (st := st) (S6.at 0 rfl) (S6.boxlt (D := CD d c) (S := P') (x := st) 0 rfl) o.n).mono ?_
      rintro _ h7 (⟨rfl, hA, P7, SB⟩ | ⟨rfl, hA, P7, SB⟩ | ⟨V1, st7, P7, rfl, hA, cV1, sm, SB⟩)
      · have S7 : Sep noF g h7 ([CBox d c P7 st] ++ [Thing.vec intE U l, Thing.cells h.next (opE.f o)]) := S6.callF (T := CBox d c P' st) rfl SB
        exact look (S7.sub (.cons₂ _ (.cons₂ _ (List.nil_sublist _)))) hrm (fun _ h => h)
      · have S7 : Sep noF g h7 ([CBox d c P7 st] ++ [Thing.vec intE U l, Thing.cells h.next (opE.f o)]) := S6.callF (T := CBox d c P' st) rfl SB
        exact look (S7.sub (.cons₂ _ (.cons₂ _ (List.nil_sublist _)))) hrm (fun _ h => h)
      · have S7 : Sep noF g h7 ([CBox d c P7 st7, Thing.vec byteE V1 (st.view o.n)] ++ [Thing.vec intE U l, Thing.cells h.next (opE.f o)]) := S6.callF (T := CBox d c P' st) rfl SB
        exact look (S7.sub (.cons₂ _ (.cons _ (.cons₂ _ (List.nil_sublist _))))) (by rw [sm.room]; exact hrm) (fun m h => by rw [sm.dty]; exact h)
    by_cases k2 : o.k = 2
    · simp (disch := omega) only [J6_11, i, sh, sh2, shi, dec, ht6, o0, o1, o2, and_true]
      refine (full_ok S6 o.x).mono ?_
      rintro W h7 ⟨cW, S7, _⟩
      have ht7 := S7.cell (a := h.next) (vs := opE.f o) 2 rfl
      simp (disch := omega) only [sh, sh2, ht7, o1, o2, true_and]
      refine (write_ok (Zs := [Thing.vec intE U l, Thing.cells h.next (opE.f o)]) S7 o.n).mono ?_
      rintro _ h8 (⟨rfl, hA, P8, S8⟩ | ⟨rfl, hA, P8, S8⟩ | ⟨rfl, hA, st8, P8, eR, eD, eV, eT, S8⟩)
      · exact look (S8.sub (.cons₂ _ (.cons₂ _ (List.nil_sublist _)))) hrm (fun _ h => h)
      · exact look (S8.sub (.cons₂ _ (.cons₂ _ (List.nil_sublist _)))) hrm (fun _ h => h)
      · refine look (S8.sub (.cons₂ _ (.cons₂ _ (List.nil_sublist _)))) (eR.trans hrm) (fun m h => ?_)
        rw [eT]
        split
        · rfl
        · exact h
    by_cases k4 : o.k = 4
    · simp (disch := omega) only [J6_11, i, sh, sh2, shi, dec, ht6, o0, o1, o2]
      refine (CForget_ok (d := d) (c := c) (S := P') (st := st) (S6.at 0 rfl) (S6.boxlt (D := CD d c) (S := P') (x := st) 0 rfl)).mono ?_
      rintro _ h7 ⟨z, st7, P7, rfl, sm, SB⟩
      have S7 : Sep noF g h7 ([CBox d c P7 st7] ++ [Thing.vec intE U l, Thing.cells h.next (opE.f o)]) := S6.callF (T := CBox d c P' st) rfl SB
      exact look (S7.sub (.cons₂ _ (.cons₂ _ (List.nil_sublist _)))) (by rw [sm.room]; exact hrm) (fun m h => by rw [sm.dty]; exact h)
    simp (disch := omega) only [J6_11, i, sh, sh2, shi, dec, ht6, o0, o1, o2]
    exact look S6.init hrm (fun _ h => h)
end
end Go.Proofs.Ytoajcekgoalhjaa
