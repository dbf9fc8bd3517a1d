/-
  The law BufBack.
-/
import Derived.Test.YtoajcekgoalhjaaBfF
set_option linter.all false
namespace Go.Proofs.Ytoajcekgoalhjaa
open Go.ChangeShapes Go.WideShapes Go.ChangeAt Go.RowKit Go.Lm
set_option linter.unusedSimpArgs false
set_option maxRecDepth 10000
/-- The twelve bytes that the law keeps. -/
def nowC (f : List Int) : List LV := f.map (LV.int .u8)
theorem now_new (h : LHeap) : newL (.agg [.int .u8 0, .int .u8 0, .int .u8 0, .int .u8 0, .int .u8 0, .int .u8 0, .int .u8 0, .int .u8 0, .int .u8 0, .int .u8 0, .int .u8 0, .int .u8 0]) h = some (.ptr h.next 0, h.alloc (.cells (nowC (List.replicate 12 0)) .ex)) := rfl
theorem now_ix (t : Nat) (n : Int) (h : 0 ≤ n ∧ n < 12) : ixAddrL (some 12) 1 (.ptr t 0) (.int .i64 n) = some (.ptr t n.toNat) := by
  rw [ix_arr 1 h.1 (by omega)]
  congr 2
  omega
theorem now_ld {f : List Int} (hl : f.length = 12) {n : Int} (h : 0 ≤ n ∧ n < 12) {g : LHeap} {t : Nat} (ht : g.get t = some (.cells (nowC f) .ex)) : loadV none (.ptr t n.toNat) g = some (.int .u8 (f.getD n.toNat 0)) := by
  rw [load_o, ht, cell_o, nowC, List.getElem?_map, List.getD_eq_getElem?_getD]
  rw [List.getElem?_eq_getElem (by omega)]
  rfl
theorem now_st {f : List Int} (hl : f.length = 12) {n : Int} (h : 0 ≤ n ∧ n < 12) {g : LHeap} {t : Nat} (ht : g.get t = some (.cells (nowC f) .ex)) (x : Int) : storeV 1 (.ptr t n.toNat) (.int .u8 x) g = some (g.set t (.cells (nowC (f.set n.toNat x)) .ex)) := by
  rw [store_o _ _ _ rfl, ht]
  simp only [setO, nowC]
  rw [List.getElem?_map, List.getElem?_eq_getElem (by omega), ← List.map_set]
  rfl
section
variable {F : Nat → Prop} {g h h' : LHeap} {Ts Us Zs : List Thing} {d c : Nat} {S : Nat → Prop} {st : CSt}
theorem clean_view (w : CWf st) {n : Int} (h : st.dty n = false) : st.view n = st.d.rd n := by
  unfold CSt.view
  split
  · rename_i b t hb
    have : t = false := by simpa [CSt.dty, hb] using h
    exact (w.blk n b t hb).2.2 this
  · rfl
theorem CWf.fl (w : CWf st) : CWf { st with d := st.d.fl } :=
  ⟨w.dw.fl, w.r1, w.r2, w.nd, w.le, w.mem, fun n b t h => by
    have := w.blk n b t h
    refine ⟨this.1, this.2.1, fun ht => ?_⟩
    rw [rd_fl w.dw this.1.1 this.1.2]
    exact this.2.2 ht⟩
theorem CFlush_ok (Sp : Sep F g h (CBox d c S st :: Zs)) (hp : st.d.pd.length < 2 ^ 60) : Ok Try.prog 40 [.ptr d 0] h fun v h' => v = i st.d.pd.length ∧ ∃ S', Sep F g h' (CBox d c S' { st with d := st.d.fl } :: Zs) := by
  obtain ⟨k, xs, S1, hb, nd, w⟩ := CAt.of Sp
  refine (Flush_ok (d := d) (S := k.Sd) (st := st.d) (S1.at 0 rfl) (S1.boxlt (D := DkD d) (S := k.Sd) (x := st.d) 0 rfl) hp).mono ?_
  rintro _ h2 ⟨rfl, Sd', S2⟩
  have S3 := dcall S1 S2
  rw [List.append_nil] at S3
  exact ⟨rfl, CAt.to_box (st := { st with d := st.d.fl }) ⟨_, xs, S3, hb, nd, w.fl⟩⟩
theorem box_disk (Sp : Sep F g h (CBox d c S st :: Zs)) : ∃ S', Sep F g h (DBox d S' st.d :: Zs) := by
  obtain ⟨k, xs, S1, hb, nd, w⟩ := CAt.of Sp
  refine ⟨k.Sd, S1.sub ?_⟩
  show List.Sublist (DBox d k.Sd st.d :: Zs) (DBox d k.Sd st.d :: (CT1 d c st.room k st.ord xs ++ Zs))
  exact .cons₂ _ (List.sublist_append_right _ _)
/-- What the law has written last is what stands there. -/
def Told (st : CSt) (f : List Int) : Prop := f.length = 12 ∧ ∀ n : Int, 0 ≤ n ∧ n < 12 → st.view n = List.replicate 512 (f.getD n.toNat 0)
theorem back_any {V : LV} {ops : List OpX} (R : Row g V opE ops) (hl : ops.length * 32 ≤ 140737488351232) (r : Int) : Ok Try.prog 9 [.int .i64 r, V] g fun v _ => v = .bool true := by
  refine ok9 fun wf _ => ?_
  simp (disch := omega) only [F9, J9_0]
  refine (newD_ok g (Sep.start noF g)).mono ?_
  rintro _ h1 ⟨d, Q1, rfl, S1⟩
  simp (disch := omega) only [sh, sh2, shi, dec, J9_1, nil_p ty23 true]
  refine lives_pure.to ?_
  simp (disch := omega) only [sh, sh2, J9_2]
  refine (CNew_ok S1 r).mono ?_
  rintro _ h3 (⟨rfl, hr1, rfl⟩ | ⟨hr1, c, P1, rfl, S3⟩)
  · simp (disch := omega) only [i, sh, sh2, shi, dec, J9_3, nil_p ty28 true]
  have S4 := S3.new (nowC (List.replicate 12 0))
  simp (disch := omega) only [i, sh, sh2, shi, dec, J9_3, J9_4, J9_5, J9_16, nil_p ty28 true, now_new]
  generalize h3.next = t at S4
  have hlen := R.len (P := Try.prog) ty22
  refine loop_n (fun n s h => ∃ (k : Nat) (P : Nat → Prop) (st : CSt) (f : List Int), s = i (k : Int) ∧ k + n = ops.length ∧ Sep noF g h [CBox d c P st, Thing.cells t (nowC f)] ∧ Told st f ∧ st.d.cnt = 12 ∧ st.d.pd.length ≤ k) (n := ops.length)
    ⟨0, _, _, _, rfl, by omega, S4, ⟨by simp, fun n hn => ?_⟩, rfl, Nat.le_refl _⟩ ?_
  · show (newD 12).rd n = _
    rw [rd_newD hn.1 (by omega)]
    rw [List.getD_eq_getElem?_getD, List.getElem?_replicate, if_pos (by omega)]
    rfl
  rintro n s h ⟨k, P, st, f, rfl, hk, Sk, tl, hc, hp⟩
  cases n with
  | zero =>
    simp (disch := omega) only [L9_17, J9_6, i, sh, sh2, shi, dec, b_len, hlen]
    refine (CDirty_ok (d := d) (c := c) (S := P) (st := st) (Sk.at 0 rfl) (Sk.boxlt (D := CD d c) (S := P) (x := st) 0 rfl)).mono ?_
    rintro U h6 ⟨l, P', cU, ndl, hdl, hll, SA⟩
    have S6 : Sep noF g h6 ([CBox d c P' st, Thing.vec intE U l] ++ [Thing.cells t (nowC f)]) := Sk.callF (T := CBox d c P st) rfl SA
    simp (disch := omega) only [J9_7, J9_14, i]
    refine loop_n (fun n s h => ∃ (j : Nat) (P : Nat → Prop) (st' : CSt), s = i (j : Int) ∧ j + n = l.length ∧ Sep noF g h [CBox d c P st', Thing.vec intE U l, Thing.cells t (nowC f)] ∧ Told st' f ∧ st'.d.cnt = 12 ∧ st'.d.pd.length ≤ k + j ∧ ∀ m, st'.dty m = true ↔ m ∈ l.drop j) (n := l.length)
      ⟨0, P', st, rfl, by omega, S6, tl, hc, by omega, fun m => by rw [List.drop_zero]; exact (hdl m).symm⟩ ?_
    rintro n s h ⟨j, P, st, rfl, hj, Sj, tl, hc, hp, hdj⟩
    have RU := Sj.row (V := U) (E := intE) (l := l) 1 rfl
    have hln := RU.len (P := Try.prog) ty50
    cases n with
    | succ n =>
      obtain ⟨y, hy, hd⟩ := drop_at (l := l) (k := j) (by omega)
      have hix := RU.ix (k := .i64) (i := j) (by omega)
      have hld := RU.ld1 hy rfl rfl
      have he : intE.e = 1 := rfl
      rw [he] at hix
      have hyd : st.dty y = true := (hdj y).2 (by rw [hd]; exact List.mem_cons_self ..)
      simp (disch := omega) only [L9_15, i, sh, sh2, shi, dec, b_len, hln, hix, hld]
      refine (CBack_ok (d := d) (c := c) (S := P) (st := st) (Sj.at 0 rfl) (Sj.boxlt (D := CD d c) (S := P) (x := st) 0 rfl) y (by omega)).mono ?_
      rintro _ h7 (⟨rfl, hno, _⟩ | ⟨rfl, _, st1, P1', _, eD, eV, eT, SB⟩)
      · rw [hyd] at hno; cases hno
      · have S7 : Sep noF g h7 ([CBox d c P1' st1] ++ [Thing.vec intE U l, Thing.cells t (nowC f)]) := Sj.callF (T := CBox d c P st) rfl SB
        simp (disch := omega) only [i, sh, sh2, shi, dec]
        refine ⟨n, by omega, j + 1, P1', st1, by simp, by omega, S7, ⟨tl.1, fun m hm => by rw [eV]; exact tl.2 m hm⟩, by rw [eD]; exact hc, by rw [eD]; simp [DSt.wr]; omega, fun m => ?_⟩
        have nd2 : (l.drop j).Nodup := ndl.sublist (List.drop_sublist _ _)
        rw [hd, List.nodup_cons] at nd2
        have := hdj m
        rw [hd, List.mem_cons] at this
        rw [eT]
        by_cases hmy : m = y
        · subst hmy; rw [if_pos rfl]; simp [nd2.1]
        · rw [if_neg hmy, this]; simp [hmy]
    | zero =>
      have hcl : ∀ m, st.dty m = false := fun m => by
        cases hm : st.dty m with
        | false => rfl
        | true => have := (hdj m).1 hm; rw [List.drop_of_length_le (by omega)] at this; cases this
      have w := box_wf (Sj.at (T := CBox d c P st) 0 rfl)
      simp (disch := omega) only [L9_15, J9_8, i, sh, sh2, shi, dec, b_len, hln]
      refine (CFlush_ok Sj (by omega)).mono ?_
      rintro _ h7 ⟨rfl, P7, S7⟩
      simp (disch := omega) only [J9_9]
      refine (CDirty_ok (d := d) (c := c) (S := P7) (st := { st with d := st.d.fl }) (S7.at 0 rfl) (S7.boxlt (D := CD d c) (S := P7) (x := { st with d := st.d.fl }) 0 rfl)).mono ?_
      rintro U8 h8 ⟨l8, P8, cU8, ndl8, hdl8, hll8, SB⟩
      have h80 : l8 = [] := List.eq_nil_iff_forall_not_mem.2 fun m hm => by
        have : st.dty m = true := (hdl8 m).1 hm
        rw [hcl m] at this; cases this
      subst h80
      have S8 : Sep noF g h8 (CBox d c P8 { st with d := st.d.fl } :: ([Thing.vec intE U8 []] ++ [Thing.vec intE U l, Thing.cells t (nowC f)])) := S7.callF (T := CBox d c P7 { st with d := st.d.fl }) rfl SB
      have hl8 := (S8.row (V := U8) (E := intE) (l := []) 1 rfl).len (P := Try.prog) ty50
      simp only [List.length_nil, Int.natCast_zero] at hl8
      obtain ⟨Sd, S9⟩ := box_disk S8
      simp (disch := omega) only [i, sh, sh2, shi, dec, b_len, hl8]
      refine (Crash_ok (d := d) (S := Sd) (st := st.d.fl) (S9.at 0 rfl) (S9.boxlt (D := DkD d) (S := Sd) (x := st.d.fl) 0 rfl)).mono ?_
      rintro _ h9 ⟨rfl, Sd', SC⟩
      have S10 : Sep noF g h9 ([DBox d Sd' st.d.fl] ++ ([Thing.vec intE U8 []] ++ [Thing.vec intE U l, Thing.cells t (nowC f)])) := S9.callF (T := DBox d Sd st.d.fl) rfl SC
      have S11 : Sep noF g h9 [DBox d Sd' st.d.fl, Thing.cells t (nowC f)] := S10.sub (.cons₂ _ (.cons _ (.cons _ (.cons₂ _ .slnil))))
      simp (disch := omega) only [i, sh, sh2, shi, dec, J9_10, J9_12]
      refine loop_n (fun n s h => ∃ (j : Nat) (Sd : Nat → Prop), s = i (j : Int) ∧ j + n = 12 ∧ Sep noF g h [DBox d Sd st.d.fl, Thing.cells t (nowC f)]) (n := 12) ⟨0, Sd', rfl, by omega, S11⟩ ?_
      rintro n s h ⟨j, Sd, rfl, hj, Sj⟩
      cases n with
      | zero =>
        obtain rfl : j = 12 := by omega
        simp (disch := omega) only [L9_13, J9_11, i, sh, sh2, shi, dec]
      | succ n =>
        have hin : 0 ≤ (j : Int) ∧ (j : Int) < 12 := by omega
        simp (disch := omega) only [L9_13, i, sh, sh2, shi, dec]
        have hcf : st.d.fl.cnt = 12 := hc
        refine (Read_ok (d := d) (S := Sd) (st := st.d.fl) (Sj.at 0 rfl) (Sj.boxlt (D := DkD d) (S := Sd) (x := st.d.fl) 0 rfl) j).mono ?_
        rw [hcf]
        rintro _ h10 (⟨hno, _⟩ | ⟨_, V1, Sd', rfl, cV1, SD⟩)
        · exact absurd hin hno
        have hrd : st.d.fl.rd j = List.replicate 512 (f.getD (j : Int).toNat 0) := by
          rw [rd_fl w.dw hin.1 (by rw [hc]; exact hin.2), ← clean_view w (hcl j)]
          exact tl.2 j hin
        rw [hrd] at SD
        have S12 : Sep noF g h10 ([DBox d Sd' st.d.fl, Thing.vec byteE V1 (List.replicate 512 (f.getD (j : Int).toNat 0))] ++ [Thing.cells t (nowC f)]) := Sj.callF (T := DBox d Sd st.d.fl) rfl SD
        have hf12 := S12.cell (a := t) (vs := nowC f) 2 rfl
        simp (disch := omega) only [i, sh, sh2, shi, dec, now_ix t j hin]
        rw [← load_o, now_ld tl.1 hin hf12]
        simp (disch := omega) only [sh, sh2]
        refine (full_ok S12 (f.getD (j : Int).toNat 0)).mono ?_
        rintro U11 h11 ⟨cU11, S13, _⟩
        have RA := S13.row (V := V1) (E := byteE) (l := List.replicate 512 (f.getD (j : Int).toNat 0)) 1 rfl
        have RB := S13.row (V := U11) (E := byteE) (l := List.replicate 512 (f.getD (j : Int).toNat 0)) 3 rfl
        refine (same_ok RA RB (by simp)).mono ?_
        rintro _ h11 ⟨rfl, rfl⟩
        simp only [decide_true]
        simp (disch := omega) only [i, sh, sh2, shi, dec]
        exact ⟨n, by omega, j + 1, Sd', by simp, by omega, S13.sub (.cons₂ _ (.cons _ (.cons₂ _ (List.nil_sublist _))))⟩
  | succ n =>
    obtain ⟨o, ho, hd⟩ := drop_at (l := ops) (k := k) (by omega)
    have RO := R.old wf Sk.fr
    have hix := RO.ix (k := .i64) (i := k) (by omega)
    have hld := RO.ld ho
    have he : opE.e = 4 := rfl
    rw [he] at hix hld
    obtain ⟨N, n1, n2⟩ := new_op h o
    obtain ⟨o0, o1, o2⟩ := op_c o
    have S5 : Sep noF g (h.alloc (.cells (opE.f o) .ex)) [CBox d c P st, Thing.cells t (nowC f), Thing.cells h.next (opE.f o)] := Sk.new (opE.f o)
    generalize h.alloc (.cells (opE.f o) .ex) = h5 at S5 n2
    have htm := S5.cell (a := h.next) (vs := opE.f o) 2 rfl
    have next : ∀ {h6 : LHeap} {P : Nat → Prop} {st' : CSt} {f' : List Int}, Sep noF g h6 [CBox d c P st', Thing.cells t (nowC f')] → Told st' f' → st'.d.cnt = 12 → st'.d.pd.length ≤ k + 1 →
        ∃ m, m < n + 1 ∧ ∃ (k' : Nat) (P : Nat → Prop) (st : CSt) (f : List Int), LV.int .i64 ((k : Int) + 1) = i (k' : Int) ∧ k' + m = ops.length ∧ Sep noF g h6 [CBox d c P st, Thing.cells t (nowC f)] ∧ Told st f ∧ st.d.cnt = 12 ∧ st.d.pd.length ≤ k' := fun S h1 h2 h3 => ⟨n, by omega, k + 1, _, _, _, by simp, by omega, S, h1, h2, h3⟩
    by_cases k1 : o.k = 1
    · simp (disch := omega) only [L9_17, i, sh, sh2, shi, dec, b_len, hlen, hix, hld, n1, n2, htm, o0, o1, o2]
      refine (CRead_ok (d := d) (c := c) (S := P) (st := st) (S5.at 0 rfl) (S5.boxlt (D := CD d c) (S := P) (x := st) 0 rfl) o.n).mono ?_
      rw [hc]
      rintro _ h7 (⟨rfl, hA, P7, SB⟩ | ⟨rfl, hA, P7, SB⟩ | ⟨V1, st7, P7, rfl, hA, cV1, sm, SB⟩)
      · have S7 : Sep noF g h7 ([CBox d c P7 st] ++ [Thing.cells t (nowC f), Thing.cells h.next (opE.f o)]) := S5.callF (T := CBox d c P st) rfl SB
        simp (disch := omega) only [i, sh, sh2, shi, dec]
        exact next (S7.sub (.cons₂ _ (.cons₂ _ (List.nil_sublist _)))) tl hc (by omega)
      · have S7 : Sep noF g h7 ([CBox d c P7 st] ++ [Thing.cells t (nowC f), Thing.cells h.next (opE.f o)]) := S5.callF (T := CBox d c P st) rfl SB
        simp (disch := omega) only [i, sh, sh2, shi, dec]
        exact next (S7.sub (.cons₂ _ (.cons₂ _ (List.nil_sublist _)))) tl hc (by omega)
      · have S7 : Sep noF g h7 ([CBox d c P7 st7, Thing.vec byteE V1 (st.view o.n)] ++ [Thing.cells t (nowC f), Thing.cells h.next (opE.f o)]) := S5.callF (T := CBox d c P st) rfl SB
        have ht7 := S7.cell (a := h.next) (vs := opE.f o) 3 rfl
        have hf7 := S7.cell (a := t) (vs := nowC f) 2 rfl
        have hA' : 0 ≤ o.n ∧ o.n < 12 := hA
        simp (disch := omega) only [i, sh, sh2, shi, dec, ht7, o1, now_ix t o.n hA']
        rw [← load_o, now_ld tl.1 hA' hf7]
        simp (disch := omega) only [sh, sh2]
        refine (full_ok S7 (f.getD o.n.toNat 0)).mono ?_
        rintro U h8 ⟨cU, S8, _⟩
        have RA := S8.row (V := V1) (E := byteE) (l := st.view o.n) 1 rfl
        have RB := S8.row (V := U) (E := byteE) (l := List.replicate 512 (f.getD o.n.toNat 0)) 4 rfl
        refine (same_ok RA RB (by rw [tl.2 o.n hA']; simp)).mono ?_
        rintro _ h8 ⟨rfl, rfl⟩
        rw [decide_eq_true (tl.2 o.n hA')]
        simp (disch := omega) only [i, sh, sh2, shi, dec]
        exact next (S8.sub (.cons₂ _ (.cons _ (.cons₂ _ (List.nil_sublist _))))) ⟨tl.1, fun m hm => by rw [sm.view]; exact tl.2 m hm⟩ (by rw [sm.d]; exact hc) (by rw [sm.d]; omega)
    by_cases k2 : o.k = 2
    · simp (disch := omega) only [L9_17, i, sh, sh2, shi, dec, b_len, hlen, hix, hld, n1, n2, htm, o0, o1, o2, and_true]
      refine (full_ok S5 o.x).mono ?_
      rintro W h7 ⟨cW, S7, _⟩
      have ht7 := S7.cell (a := h.next) (vs := opE.f o) 2 rfl
      simp (disch := omega) only [sh, sh2, ht7, o1, o2, true_and]
      refine (write_ok (Zs := [Thing.cells t (nowC f), Thing.cells h.next (opE.f o)]) S7 o.n).mono ?_
      rw [hc]
      rintro _ h8 (⟨rfl, hA, P8, S8⟩ | ⟨rfl, hA, P8, S8⟩ | ⟨rfl, hA, st8, P8, eR, eD, eV, eT, S8⟩)
      · simp (disch := omega) only [i, sh, sh2, shi, dec]
        exact next (S8.sub (.cons₂ _ (.cons₂ _ (List.nil_sublist _)))) tl hc (by omega)
      · simp (disch := omega) only [i, sh, sh2, shi, dec]
        exact next (S8.sub (.cons₂ _ (.cons₂ _ (List.nil_sublist _)))) tl hc (by omega)
      · have ht8 := S8.cell (a := h.next) (vs := opE.f o) 2 rfl
        have hf8 := S8.cell (a := t) (vs := nowC f) 1 rfl
        have hA' : 0 ≤ o.n ∧ o.n < 12 := hA
        simp (disch := omega) only [i, sh, sh2, shi, dec, ht8, o1, o2, now_ix t o.n hA', now_st tl.1 hA' hf8]
        have S9 := S8.store (a := t) (vs := nowC f) 1 rfl (nowC (f.set o.n.toNat o.x))
        refine next (S9.sub (.cons₂ _ (.cons₂ _ (List.nil_sublist _)))) ⟨by rw [List.length_set]; exact tl.1, fun m hm => ?_⟩ (by rw [eD]; exact hc) (by rw [eD]; omega)
        rw [eV, List.getD_eq_getElem?_getD]
        by_cases hmn : m = o.n
        · subst hmn; rw [if_pos rfl, List.getElem?_set_self (by rw [tl.1]; omega)]; rfl
        · rw [if_neg hmn, List.getElem?_set_ne (by omega), ← List.getD_eq_getElem?_getD]; exact tl.2 m hm
    by_cases k3 : o.k = 3
    · simp (disch := omega) only [L9_17, i, sh, sh2, shi, dec, b_len, hlen, hix, hld, n1, n2, htm, o0, o1, o2]
      refine (CBack_ok (d := d) (c := c) (S := P) (st := st) (S5.at 0 rfl) (S5.boxlt (D := CD d c) (S := P) (x := st) 0 rfl) o.n (by omega)).mono ?_
      rintro _ h6 (⟨rfl, _, P1', SA⟩ | ⟨rfl, _, st1', P1', _, eD, eV, _, SA⟩)
      · have S6 : Sep noF g h6 ([CBox d c P1' st] ++ [Thing.cells t (nowC f), Thing.cells h.next (opE.f o)]) := S5.callF (T := CBox d c P st) rfl SA
        exact next (S6.sub (.cons₂ _ (.cons₂ _ (List.nil_sublist _)))) tl hc (by omega)
      · have S6 : Sep noF g h6 ([CBox d c P1' st1'] ++ [Thing.cells t (nowC f), Thing.cells h.next (opE.f o)]) := S5.callF (T := CBox d c P st) rfl SA
        exact next (S6.sub (.cons₂ _ (.cons₂ _ (List.nil_sublist _)))) ⟨tl.1, fun m hm => by rw [eV]; exact tl.2 m hm⟩ (by rw [eD]; exact hc) (by rw [eD]; simp [DSt.wr]; omega)
    by_cases k4 : o.k = 4
    · simp (disch := omega) only [L9_17, i, sh, sh2, shi, dec, b_len, hlen, hix, hld, n1, n2, htm, o0, o1, o2]
      refine (CForget_ok (d := d) (c := c) (S := P) (st := st) (S5.at 0 rfl) (S5.boxlt (D := CD d c) (S := P) (x := st) 0 rfl)).mono ?_
      rintro _ h6 ⟨z, st', P', rfl, sm, SA⟩
      have S6 : Sep noF g h6 ([CBox d c P' st'] ++ [Thing.cells t (nowC f), Thing.cells h.next (opE.f o)]) := S5.callF (T := CBox d c P st) rfl SA
      exact next (S6.sub (.cons₂ _ (.cons₂ _ (List.nil_sublist _)))) ⟨tl.1, fun m hm => by rw [sm.view]; exact tl.2 m hm⟩ (by rw [sm.d]; exact hc) (by rw [sm.d]; omega)
    simp (disch := omega) only [L9_17, i, sh, sh2, shi, dec, b_len, hlen, hix, hld, n1, n2, htm, o0, o1, o2]
    exact next S5.init tl hc (by omega)
end
end Go.Proofs.Ytoajcekgoalhjaa
