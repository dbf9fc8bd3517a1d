/-
  The law BufSame.
-/
import Derived.Test.YtoajcekgoalhjaaBfD
set_option linter.all false
namespace Go.Proofs.Ytoajcekgoalhjaa
open Go.ChangeShapes Go.WideShapes Go.ChangeAt Go.RowKit Go.Lm
set_option linter.unusedSimpArgs false
set_option maxRecDepth 10000
theorem eqb4 (lit : Bool) : binL Try.prog .eql 4 lit (.bool true) (.bool true) = some (.bool true) ∧ binL Try.prog .eql 4 lit (.bool false) (.bool false) = some (.bool true) := by
  cases lit <;> exact ⟨nr (by kernel_rfl), nr (by kernel_rfl)⟩
section
variable {F : Nat → Prop} {g h h' : LHeap} {Ts Us Zs : List Thing}
theorem newD_ok (h : LHeap) (Sp : Sep F g h Ts) : Ok Try.prog 10 [.int .i64 12] h fun v h' => ∃ d S, v = .tuple [.ptr d 0, .int .i64 0] ∧ Sep F g h' (DBox d S (newD 12) :: Ts) := by
  refine Ok.mono (New_ok (k := 12) (by decide) (by decide)) ?_
  rintro v h' ⟨d, S, rfl, S1⟩
  exact ⟨d, S, rfl, Sep.join Sp S1⟩
theorem second {T U : Thing} (Sp : Sep F g h (T :: U :: Ts)) : Sep F g h (U :: T :: Ts) := Sp.perm (.swap _ _ _)
theorem box_wf {d c : Nat} {S : Nat → Prop} {st : CSt} (B : (CBox d c S st).ok h) : CWf st := by
  obtain ⟨Ts, ⟨_, _, _, _, _, w⟩, _⟩ := B
  exact w
theorem view_len {st : CSt} (w : CWf st) {n : Int} (hn : 0 ≤ n ∧ n < st.d.cnt) : (st.view n).length = 512 := by
  unfold CSt.view
  split
  · rename_i b t hb; exact (w.blk n b t hb).2.1
  · exact rd_len w.dw hn.1 hn.2
/-- A block is written: what comes of it, where the box stands first and the bytes last. -/
theorem write_ok {d c : Nat} {S : Nat → Prop} {st : CSt} {U : LV} {x : Int} (Sp : Sep F g h (CBox d c S st :: (Zs ++ [Thing.vec byteE U (List.replicate 512 x)]))) (n : Int) : Ok Try.prog 15 [.ptr c 0, .int .i64 n, U] h fun v h' =>
    (v = .int .i64 20 ∧ ¬ (0 ≤ n ∧ n < st.d.cnt) ∧ ∃ S', Sep F g h' (CBox d c S' st :: Zs)) ∨
    (v = .int .i64 150 ∧ (0 ≤ n ∧ n < st.d.cnt) ∧ ∃ S', Sep F g h' (CBox d c S' st :: Zs)) ∨
    (v = .int .i64 0 ∧ (0 ≤ n ∧ n < st.d.cnt) ∧ ∃ st' S', st'.room = st.room ∧ st'.d = st.d ∧ (∀ m, st'.view m = if m = n then List.replicate 512 x else st.view m) ∧ (∀ m, st'.dty m = if m = n then true else st.dty m) ∧ Sep F g h' (CBox d c S' st' :: Zs)) := by
  have hlast : (CBox d c S st :: (Zs ++ [Thing.vec byteE U (List.replicate 512 x)]))[Zs.length + 1]? = some (Thing.vec byteE U (List.replicate 512 x)) := by simp
  have R := Sp.row _ hlast
  refine (CWrite_ok (Sp.at (T := CBox d c S st) 0 rfl) (Sp.boxlt (D := CD d c) (S := S) (x := st) 0 rfl) n R (fun a ha hS => Sp.apart (T := CBox d c S st) (i := 0) (j := Zs.length + 1) rfl hlast (by omega) (a := a) hS ha) (by simp)).mono ?_
  have drop : ∀ {h' : LHeap} {S' : Nat → Prop} {st' : CSt}, Sep S h h' [CBox d c S' st'] → Sep F g h' (CBox d c S' st' :: Zs) := fun S' => (Sp.callF (T := CBox d c S st) rfl S').sub (.cons₂ _ (List.sublist_append_left _ _))
  rintro v h' (⟨_, hno, _⟩ | ⟨rfl, _, hn, S', S1⟩ | ⟨rfl, _, hn, S', S1⟩ | ⟨rfl, _, hn, st', S', e1, e2, e3, e4, S1⟩)
  · exact absurd (by simp) hno
  · exact .inl ⟨rfl, hn, S', drop S1⟩
  · exact .inr (.inl ⟨rfl, hn, S', drop S1⟩)
  · exact .inr (.inr ⟨rfl, hn, st', S', e1, e2, e3, e4, drop S1⟩)
theorem same_any {V : LV} {ops : List OpX} (R : Row g V opE ops) (hl : ops.length * 32 ≤ 140737488351232) (r1 r2 : Int) : Ok Try.prog 3 [.int .i64 r1, .int .i64 r2, V] g fun v _ => v = .bool true := by
  refine ok3 fun wf _ => ?_
  simp (disch := omega) only [F3, J3_0]
  refine (newD_ok g (Sep.start noF g)).mono ?_
  rintro _ h1 ⟨d1, Q1, rfl, S1⟩
  simp (disch := omega) only [sh, sh2, J3_1]
  refine (newD_ok h1 S1).mono ?_
  rintro _ h2 ⟨d2, Q2, rfl, S2⟩
  simp (disch := omega) only [sh, sh2, shi, dec, J3_2, nil_p ty23 true]
  refine lives_pure.to ?_
  simp (disch := omega) only [sh, sh2, J3_3]
  refine (CNew_ok (second S2) r1).mono ?_
  rintro _ h3 (⟨rfl, hr1, rfl⟩ | ⟨hr1, c1, P1, rfl, S3⟩)
  · simp (disch := omega) only [i, sh, sh2, shi, dec, J3_4]
    refine (CNew_ok S2 r2).mono ?_
    rintro _ h4 (⟨rfl, hr2, rfl⟩ | ⟨hr2, c2, P2, rfl, S4⟩)
    · simp (disch := omega) only [i, sh, sh2, shi, dec, J3_5, nil_p ty28 true, eqb4 false]
    · simp (disch := omega) only [i, sh, sh2, shi, dec, J3_5, nil_p ty28 true, eqb4 false]
  simp (disch := omega) only [i, sh, sh2, shi, dec, J3_4]
  refine (CNew_ok (second S3) r2).mono ?_
  rintro _ h4 (⟨rfl, hr2, rfl⟩ | ⟨hr2, c2, P2, rfl, S4⟩)
  · simp (disch := omega) only [i, sh, sh2, shi, dec, J3_5, nil_p ty28 true, eqb4 false]
  simp (disch := omega) only [i, sh, sh2, shi, dec, J3_5, J3_6, J3_8, nil_p ty28 true]
  have hlen := R.len (P := Try.prog) ty22
  refine loop_n (fun n s h => ∃ (k : Nat) (P1 P2 : Nat → Prop) (st1 st2 : CSt), s = i (k : Int) ∧ k + n = ops.length ∧ Sep noF g h [CBox d1 c1 P1 st1, CBox d2 c2 P2 st2] ∧ st1.view = st2.view ∧ st1.d.cnt = 12 ∧ st2.d.cnt = 12 ∧ st1.d.pd.length ≤ k) (n := ops.length)
    ⟨0, _, _, _, _, rfl, by omega, second S4, rfl, rfl, rfl, Nat.le_refl _⟩ ?_
  rintro n s h ⟨k, P1, P2, st1, st2, rfl, hk, Sk, hv, hc1, hc2, hp⟩
  cases n with
  | zero => simp (disch := omega) only [L3_9, J3_7, i, sh, sh2, shi, dec, b_len, hlen]
  | succ n =>
    obtain ⟨o, ho, hd⟩ := drop_at (l := ops) (k := k) (by omega)
    have RO := R.old wf Sk.fr
    have hix := RO.ix (k := .i64) (i := k) (by omega)
    have hld := RO.ld ho
    have he : opE.e = 4 := rfl
    rw [he] at hix hld
    obtain ⟨N, n1, n2⟩ := new_op h o
    obtain ⟨o0, o1, o2⟩ := op_c o
    have S5 : Sep noF g (h.alloc (.cells (opE.f o) .ex)) [CBox d1 c1 P1 st1, CBox d2 c2 P2 st2, Thing.cells h.next (opE.f o)] := Sk.new (opE.f o)
    generalize h.alloc (.cells (opE.f o) .ex) = h5 at S5 n2
    have htm := S5.cell (a := h.next) (vs := opE.f o) 2 rfl
    -- both calls are done, and stand alike again
    have next : ∀ {h6 : LHeap} {P1 P2 : Nat → Prop} {st1' st2' : CSt}, Sep noF g h6 [CBox d1 c1 P1 st1', CBox d2 c2 P2 st2'] → st1'.view = st2'.view → st1'.d.cnt = 12 → st2'.d.cnt = 12 → st1'.d.pd.length ≤ k + 1 →
        ∃ m, m < n + 1 ∧ ∃ (k' : Nat) (P1 P2 : Nat → Prop) (st1 st2 : CSt), LV.int .i64 ((k : Int) + 1) = i (k' : Int) ∧ k' + m = ops.length ∧ Sep noF g h6 [CBox d1 c1 P1 st1, CBox d2 c2 P2 st2] ∧ st1.view = st2.view ∧ st1.d.cnt = 12 ∧ st2.d.cnt = 12 ∧ st1.d.pd.length ≤ k' := fun S h1 h2 h3 h4 => ⟨n, by omega, k + 1, _, _, _, _, by simp, by omega, S, h1, h2, h3, h4⟩
    by_cases k1 : o.k = 1
    · simp (disch := omega) only [L3_9, i, sh, sh2, shi, dec, b_len, hlen, hix, hld, n1, n2, htm, o0, o1, o2]
      refine (CRead_ok (d := d1) (c := c1) (S := P1) (st := st1) (S5.at 0 rfl) (S5.boxlt (D := CD d1 c1) (S := P1) (x := st1) 0 rfl) o.n).mono ?_
      rintro _ h6 (⟨rfl, hA, P1', SA⟩ | ⟨rfl, hA, P1', SA⟩ | ⟨V1, st1', P1', rfl, hA, cV1, sm1, SA⟩)
      · have S6 : Sep noF g h6 ([CBox d1 c1 P1' st1] ++ [CBox d2 c2 P2 st2, Thing.cells h.next (opE.f o)]) := S5.callF (T := CBox d1 c1 P1 st1) rfl SA
        have S7 := second S6
        have ht6 := S6.cell (a := h.next) (vs := opE.f o) 2 rfl
        simp (disch := omega) only [sh, sh2, ht6, o1]
        refine (CRead_ok (d := d2) (c := c2) (S := P2) (st := st2) (S7.at 0 rfl) (S7.boxlt (D := CD d2 c2) (S := P2) (x := st2) 0 rfl) o.n).mono ?_
        rintro _ h8 (⟨rfl, hB, P2', SB⟩ | ⟨rfl, hB, P2', SB⟩ | ⟨V2, st2', P2', rfl, hB, cV2, sm2, SB⟩)
        · have S8 : Sep noF g h8 ([CBox d2 c2 P2' st2] ++ [CBox d1 c1 P1' st1, Thing.cells h.next (opE.f o)]) := S7.callF (T := CBox d2 c2 P2 st2) rfl SB
          simp (disch := omega) only [i, sh, sh2, shi, dec]
          refine (same_ok (Row.nils h8 byteE) (Row.nils h8 byteE) (by decide)).mono ?_
          rintro _ h8 ⟨rfl, rfl⟩
          simp only [decide_true]
          simp (disch := omega) only [i, sh, sh2, shi, dec]
          exact next ((second S8).sub (.cons₂ _ (.cons₂ _ (List.nil_sublist _)))) hv hc1 hc2 (by omega)
        · rw [hc1] at hA; rw [hc2] at hB; exact absurd hB hA
        · rw [hc1] at hA; rw [hc2] at hB; exact absurd hB hA
      · have S6 : Sep noF g h6 ([CBox d1 c1 P1' st1] ++ [CBox d2 c2 P2 st2, Thing.cells h.next (opE.f o)]) := S5.callF (T := CBox d1 c1 P1 st1) rfl SA
        have S7 := second S6
        have ht6 := S6.cell (a := h.next) (vs := opE.f o) 2 rfl
        simp (disch := omega) only [sh, sh2, ht6, o1]
        refine (CRead_ok (d := d2) (c := c2) (S := P2) (st := st2) (S7.at 0 rfl) (S7.boxlt (D := CD d2 c2) (S := P2) (x := st2) 0 rfl) o.n).mono ?_
        rintro _ h8 (⟨rfl, hB, P2', SB⟩ | ⟨rfl, hB, P2', SB⟩ | ⟨V2, st2', P2', rfl, hB, cV2, sm2, SB⟩)
        all_goals simp (disch := omega) only [i, sh, sh2, shi, dec]
      · have S6 : Sep noF g h6 ([CBox d1 c1 P1' st1', Thing.vec byteE V1 (st1.view o.n)] ++ [CBox d2 c2 P2 st2, Thing.cells h.next (opE.f o)]) := S5.callF (T := CBox d1 c1 P1 st1) rfl SA
        have S7 : Sep noF g h6 [CBox d2 c2 P2 st2, CBox d1 c1 P1' st1', Thing.vec byteE V1 (st1.view o.n), Thing.cells h.next (opE.f o)] := S6.perm (.trans (.cons _ (.swap _ _ _)) (.swap _ _ _))
        have ht6 := S6.cell (a := h.next) (vs := opE.f o) 3 rfl
        simp (disch := omega) only [sh, sh2, ht6, o1]
        refine (CRead_ok (d := d2) (c := c2) (S := P2) (st := st2) (S7.at 0 rfl) (S7.boxlt (D := CD d2 c2) (S := P2) (x := st2) 0 rfl) o.n).mono ?_
        rintro _ h8 (⟨rfl, hB, P2', SB⟩ | ⟨rfl, hB, P2', SB⟩ | ⟨V2, st2', P2', rfl, hB, cV2, sm2, SB⟩)
        · rw [hc1] at hA; rw [hc2] at hB; exact absurd hA hB
        · simp (disch := omega) only [i, sh, sh2, shi, dec]
        · have S8 : Sep noF g h8 ([CBox d2 c2 P2' st2', Thing.vec byteE V2 (st2.view o.n)] ++ [CBox d1 c1 P1' st1', Thing.vec byteE V1 (st1.view o.n), Thing.cells h.next (opE.f o)]) := S7.callF (T := CBox d2 c2 P2 st2) rfl SB
          have RA := S8.row (V := V1) (E := byteE) (l := st1.view o.n) 3 rfl
          have RB := S8.row (V := V2) (E := byteE) (l := st2.view o.n) 1 rfl
          simp (disch := omega) only [i, sh, sh2, shi, dec]
          refine (same_ok RA RB (by rw [view_len (box_wf (S5.at (T := CBox d1 c1 P1 st1) 0 rfl)) hA]; decide)).mono ?_
          rintro _ h8 ⟨rfl, rfl⟩
          simp only [hv, decide_true]
          simp (disch := omega) only [i, sh, sh2, shi, dec]
          refine next (P1 := P1') (P2 := P2') (st1' := st1') (st2' := st2') ?_ (by rw [sm1.view, sm2.view, hv]) (by rw [sm1.d]; exact hc1) (by rw [sm2.d]; exact hc2) (by rw [sm1.d]; omega)
          exact (second (S8.sub (Us := [CBox d2 c2 P2' st2', CBox d1 c1 P1' st1']) (.cons₂ _ (.cons _ (.cons₂ _ (List.nil_sublist _))))))
    by_cases k2 : o.k = 2
    · simp (disch := omega) only [L3_9, i, sh, sh2, shi, dec, b_len, hlen, hix, hld, n1, n2, htm, o0, o1, o2, and_true]
      refine (full_ok S5 o.x).mono ?_
      rintro U h6 ⟨cU, S6, _⟩
      have ht6 := S6.cell (a := h.next) (vs := opE.f o) 2 rfl
      simp (disch := omega) only [sh, sh2, ht6, o1, o2, true_and]
      refine (write_ok (Zs := [CBox d2 c2 P2 st2, Thing.cells h.next (opE.f o)]) S6 o.n).mono ?_
      have second2 : ∀ {h7 : LHeap} {P1' : Nat → Prop} {st1' : CSt}, Sep noF g h7 [CBox d1 c1 P1' st1', CBox d2 c2 P2 st2, Thing.cells h.next (opE.f o)] → ∀ K : LV → LHeap → Prop,
          (¬ (0 ≤ o.n ∧ o.n < 12) → ∀ h8 P2', Sep noF g h8 [CBox d1 c1 P1' st1', CBox d2 c2 P2' st2] → K (.int .i64 20) h8) →
          ((0 ≤ o.n ∧ o.n < 12) → ∀ h8, K (.int .i64 150) h8) →
          ((0 ≤ o.n ∧ o.n < 12) → ∀ h8 P2' st2', st2'.d = st2.d → (∀ m, st2'.view m = if m = o.n then List.replicate 512 o.x else st2.view m) → Sep noF g h8 [CBox d1 c1 P1' st1', CBox d2 c2 P2' st2'] → K (.int .i64 0) h8) →
          Ok Try.prog 16 [.int .u8 o.x, .int .i64 0] h7 fun t144 g => cellO none 1 (g.get h.next) = some (.int .i64 o.n) ∧ Ok Try.prog 15 [.ptr c2 0, .int .i64 o.n, t144] g K := by
        intro h7 P1' st1' S7 K K1 K2 K3
        refine (full_ok (second S7) o.x).mono ?_
        rintro U h8 ⟨cU, S8, _⟩
        have ht8 := S8.cell (a := h.next) (vs := opE.f o) 2 rfl
        refine ⟨by rw [ht8]; exact o1, ?_⟩
        refine (write_ok (Zs := [CBox d1 c1 P1' st1', Thing.cells h.next (opE.f o)]) S8 o.n).mono ?_
        rw [hc2]
        rintro _ h9 (⟨rfl, hA, P2', S9⟩ | ⟨rfl, hA, P2', S9⟩ | ⟨rfl, hA, st2', P2', _, eD, eV, _, S9⟩)
        · exact K1 hA h9 P2' ((second S9).sub (.cons₂ _ (.cons₂ _ (List.nil_sublist _))))
        · exact K2 hA h9
        · exact K3 hA h9 P2' st2' eD eV ((second S9).sub (.cons₂ _ (.cons₂ _ (List.nil_sublist _))))
      rw [hc1]
      rintro _ h7 (⟨rfl, hA, P1', S7⟩ | ⟨rfl, hA, P1', S7⟩ | ⟨rfl, hA, st1', P1', _, eD, eV, _, S7⟩)
      all_goals have ht7 := S7.cell (a := h.next) (vs := opE.f o) 2 rfl
      · simp (disch := omega) only [sh, sh2, ht7, o1, o2, true_and]
        refine second2 S7 _ (fun _ h8 P2' S8 => ?_) (fun hB => absurd hB hA) (fun hB => absurd hB hA)
        simp (disch := omega) only [i, sh, sh2, shi, dec]
        exact next S8 hv hc1 hc2 (by omega)
      · simp (disch := omega) only [sh, sh2, ht7, o1, o2, true_and]
        refine second2 S7 _ (fun hB => absurd hA hB) (fun _ h8 => ?_) (fun _ h8 P2' st2' _ _ S8 => ?_)
        all_goals simp (disch := omega) only [i, sh, sh2, shi, dec]
      · simp (disch := omega) only [sh, sh2, ht7, o1, o2, true_and]
        refine second2 S7 _ (fun hB => absurd hA hB) (fun _ h8 => ?_) (fun _ h8 P2' st2' eD2 eV2 S8 => ?_)
        · simp (disch := omega) only [i, sh, sh2, shi, dec]
        · simp (disch := omega) only [i, sh, sh2, shi, dec]
          refine next S8 ?_ (by rw [eD]; exact hc1) (by rw [eD2]; exact hc2) (by rw [eD]; omega)
          funext m
          rw [eV, eV2, hv]
    by_cases k3 : o.k = 3
    · simp (disch := omega) only [L3_9, i, sh, sh2, shi, dec, b_len, hlen, hix, hld, n1, n2, htm, o0, o1, o2]
      refine (CBack_ok (d := d1) (c := c1) (S := P1) (st := st1) (S5.at 0 rfl) (S5.boxlt (D := CD d1 c1) (S := P1) (x := st1) 0 rfl) o.n (by omega)).mono ?_
      rintro _ h6 (⟨rfl, _, P1', SA⟩ | ⟨rfl, _, st1', P1', _, eD, eV, _, SA⟩)
      · have S6 : Sep noF g h6 ([CBox d1 c1 P1' st1] ++ [CBox d2 c2 P2 st2, Thing.cells h.next (opE.f o)]) := S5.callF (T := CBox d1 c1 P1 st1) rfl SA
        exact next (S6.sub (.cons₂ _ (.cons₂ _ (List.nil_sublist _)))) hv hc1 hc2 (by omega)
      · have S6 : Sep noF g h6 ([CBox d1 c1 P1' st1'] ++ [CBox d2 c2 P2 st2, Thing.cells h.next (opE.f o)]) := S5.callF (T := CBox d1 c1 P1 st1) rfl SA
        exact next (S6.sub (.cons₂ _ (.cons₂ _ (List.nil_sublist _)))) (eV.trans hv) (by rw [eD]; exact hc1) hc2 (by rw [eD]; simp [DSt.wr]; omega)
    by_cases k4 : o.k = 4
    · simp (disch := omega) only [L3_9, i, sh, sh2, shi, dec, b_len, hlen, hix, hld, n1, n2, htm, o0, o1, o2]
      have S5' := second S5
      refine (CForget_ok (d := d2) (c := c2) (S := P2) (st := st2) (S5'.at 0 rfl) (S5'.boxlt (D := CD d2 c2) (S := P2) (x := st2) 0 rfl)).mono ?_
      rintro _ h6 ⟨z, st2', P2', rfl, sm, SA⟩
      have S6 : Sep noF g h6 ([CBox d2 c2 P2' st2'] ++ [CBox d1 c1 P1 st1, Thing.cells h.next (opE.f o)]) := S5'.callF (T := CBox d2 c2 P2 st2) rfl SA
      exact next ((second S6).sub (.cons₂ _ (.cons₂ _ (List.nil_sublist _)))) (hv.trans sm.view.symm) hc1 (by rw [sm.d]; exact hc2) (by omega)
    simp (disch := omega) only [L3_9, i, sh, sh2, shi, dec, b_len, hlen, hix, hld, n1, n2, htm, o0, o1, o2]
    exact next S5.init hv hc1 hc2 (by omega)
end
end Go.Proofs.Ytoajcekgoalhjaa
