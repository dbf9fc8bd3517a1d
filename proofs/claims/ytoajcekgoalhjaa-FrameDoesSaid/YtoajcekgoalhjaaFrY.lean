/-
  frame, the law: looks.
-/
import Derived.Test.YtoajcekgoalhjaaFrX
set_option linter.all false
namespace Go.Proofs.Ytoajcekgoalhjaa
open Go.ChangeShapes Go.WideShapes Go.ChangeAt Go.RowKit Go.Lm
set_option linter.unusedSimpArgs false
set_option linter.unusedVariables false
set_option maxRecDepth 10000
section
variable {F : Nat → Prop} {g h h' : LHeap} {x y m a k c : Nat} {cs Vs : List LV} {CV CC SV W : LV} {counts common bs bs' : List Int} {rs : List FX} {r : FX} {Zs Ts : List Thing} {st : FSt} {S Q : Nat → Prop} {first : Int} {harts : Nat} {V U : LV} {l l2 : List Int}
theorem ag4 : aggN Try.prog 4 = some none := by kernel_rfl
theorem ret38 (a : Nat) (h : LHeap) (K : LV → LHeap → Prop) : retC Try.prog [.cell 4 4] [(4, .ptr a 0)] h K = vK (loadV none (.ptr a 0) h) fun x => K x h := by
  have e : resL Try.prog (fun i => (List.lookup i [(4, LV.ptr a 0)]).getD undefL) h [.cell 4 4] = (loadV none (.ptr a 0) h).map fun x => [x] := by
    simp only [resL, loadT, ag4, List.lookup]
    simp
    cases loadV none (.ptr a 0) h <;> rfl
  unfold retC
  rw [e]
  cases loadV none (.ptr a 0) h <;> rfl
theorem unbox {α : Type} {D : α → List Thing → Prop} {z : α} (Sp : Sep F g h (Thing.box D S z :: Zs)) : ∃ Ts, D z Ts ∧ Sep F g h (Ts ++ Zs) := by
  obtain ⟨Ts, hD, S'⟩ := box_open (Sp.at 0 rfl) (Sp.boxlt (i := 0) rfl)
  exact ⟨Ts, hD, Sp.callF rfl S'⟩
theorem rebox {α : Type} {D : α → List Thing → Prop} {z : α} {Us : List Thing} (Sp : Sep F g h (Us ++ Zs)) (hD : D z Us) : ∃ S', Sep F g h (Thing.box D S' z :: Zs) := by
  obtain ⟨S', S1⟩ := (Sp.perm List.perm_append_comm).boxed hD
  exact ⟨S', S1.perm List.perm_append_comm⟩
/-- The lists are the same: one after the other. -/
theorem looks_lists {t3 t4 : Nat} (Sp : Sep F g h [FBox x m S st, RBox y Q st, Thing.cells t3 [.ptr y 0], Thing.cells t4 [.bool false]]) {K : LV → LHeap → Prop}
    (hK : ∀ h', Sep F g h' [FBox x m S st, RBox y Q st, Thing.cells t3 [.ptr y 0], Thing.cells t4 [.bool false]] → J38_1 (.ptr x 0) (.ptr t3 0) (.ptr t4 0) h' K) : J38_0 (.ptr x 0) (.ptr t3 0) (.ptr t4 0) h K := by
  have w := boxWf (Sp.at 0 rfl)
  have hh := w.h8
  have x3 : h.get t3 = some (.cells [.ptr y 0] .ex) := Sp.cell 2 rfl
  obtain ⟨CV, SV, CC, rs, Sr, hl, _⟩ := rd_open (Sp.at 1 rfl) (Sp.boxlt 1 rfl)
  have x0 := rg_x Sr
  have h8 := rd_len hl.1 w
  have hls : lenL Try.prog 103 SV h = some (.int .i64 (st.harts : Int)) := by rw [(rg_sv Sr).len ty103, List.length_map, h8]
  simp (disch := omega) only [J38_0, J38_9, i, sh, sh2, shi, dec, x3, x0, b_len, hls]
  refine loop_n (fun n s h => ∃ j : Nat, s = i (j : Int) ∧ j + n = st.harts ∧ Sep F g h [FBox x m S st, RBox y Q st, Thing.cells t3 [.ptr y 0], Thing.cells t4 [.bool false]]) (n := st.harts) ⟨0, rfl, by omega, Sp⟩ ?_
  clear x3 x0 hls Sr hl h8
  rintro n s h ⟨j, rfl, hj, Sp⟩
  cases n with
  | zero =>
    obtain rfl : j = st.harts := by omega
    simp (disch := omega) only [L38_10, i, sh, sh2, shi, dec]
    exact hK h Sp
  | succ n =>
    have hjn : j < st.harts := by omega
    have x3 : h.get t3 = some (.cells [.ptr y 0] .ex) := Sp.cell 2 rfl
    obtain ⟨CV, SV, CC, rs, Sr, hl, _⟩ := rd_open (Sp.at 1 rfl) (Sp.boxlt 1 rfl)
    have x0 := rg_x Sr
    obtain ⟨r, hr, er, h4⟩ := rd_r hl.1 w hjn
    obtain ⟨b1, o1, ix1, ld1⟩ := rg_ld Sr hr
    simp (disch := omega) only [L38_10, i, sh, sh2, shi, dec, x3, x0, ix1, ld1]
    refine ⟨?_, trivial⟩
    refine (listB (Sp.at 0 rfl) (Sp.boxlt 0 rfl) (j : Int)).mono ?_
    rintro V h1 ⟨O, mi, f⟩
    have S1 := Sp.pure f
    have Sr1 := Sr.pure f
    have x31 : h1.get t3 = some (.cells [.ptr y 0] .ex) := S1.cell 2 rfl
    have x01 := rg_x Sr1
    obtain ⟨b2, o2, ix2, ld2⟩ := rg_ld Sr1 hr
    rw [ix1] at ix2
    cases ix2
    have hlen := listB_len w (j : Int)
    simp (disch := omega) only [i, sh, sh2, x31, x01, ld2]
    refine ⟨trivial, trivial, trivial, ?_, trivial⟩
    refine (same51_ok O.row (rg_row Sr1 hr) (by omega) (by omega)).mono ?_
    rintro _ h1 ⟨rfl, rfl⟩
    have ed : decide ((if st.isH (j : Int) then st.listOf (j : Int).toNat else []) = r.l) = true := by
      rw [if_pos ⟨by omega, by omega⟩, Int.toNat_natCast, er]
      exact decide_eq_true rfl
    rw [ed]
    simp (disch := omega) only [i, sh, sh2, shi, dec]
    exact ⟨n, by omega, j + 1, rfl, by omega, S1⟩
theorem looks_walk {t3 t4 : Nat} (Sp : Sep F g h [FBox x m S st, RBox y Q st, Thing.cells t3 [.ptr y 0], Thing.cells t4 [.bool false]]) {K : LV → LHeap → Prop}
    (hK : ∀ h' S' t7, Sep F g h' [FBox x m S' st, RBox y Q st, Thing.cells t3 [.ptr y 0], Thing.cells t4 [.bool false], Thing.cells t7 [i (usedL st.counts)]] → J38_3 (.ptr x 0) (.ptr t3 0) (.ptr t4 0) (.ptr t7 0) h' K) : J38_1 (.ptr x 0) (.ptr t3 0) (.ptr t4 0) h K := by
  have w := boxWf (Sp.at 0 rfl)
  have bd := w.bounds
  have n6 := new_cell (v := .int .i64 0) h rfl
  have S1 := Sp.new [.int .i64 0]
  generalize e1 : h.alloc (.cells [.int .i64 0] .ex) = h1 at *
  generalize ht6 : h.next = t6 at *
  have n7 := new_cell (v := .int .i64 0) h1 rfl
  have S2 := S1.new [.int .i64 0]
  generalize e2 : h1.alloc (.cells [.int .i64 0] .ex) = h2 at *
  generalize ht7 : h1.next = t7 at *
  have S2 : Sep F g h2 [FBox x m S st, RBox y Q st, Thing.cells t3 [.ptr y 0], Thing.cells t4 [.bool false], Thing.cells t6 [.int .i64 0], Thing.cells t7 [.int .i64 0]] := S2
  have y6 : h2.get t6 = some (.cells [.int .i64 0] .ex) := S2.cell 4 rfl
  have S3 := S2.store 4 rfl [.int .i64 (-1)]
  generalize e3 : h2.set t6 (.cells [.int .i64 (-1)] .ex) = h3 at *
  have y7 : h3.get t7 = some (.cells [.int .i64 0] .ex) := S3.cell 5 rfl
  have S4 := S3.store 5 rfl [.int .i64 0]
  generalize e4 : h3.set t7 (.cells [.int .i64 0] .ex) = h4 at *
  have S4 : Sep F g h4 [FBox x m S st, RBox y Q st, Thing.cells t3 [.ptr y 0], Thing.cells t4 [.bool false], Thing.cells t6 [.int .i64 (-1)], Thing.cells t7 [.int .i64 0]] := S4
  simp (disch := omega) only [J38_1, J38_2, i, sh, sh2, shs, shi, dec, n6, n7, y6, e3, y7, e4]
  refine All_ok.mono ?_
  rintro _ _ ⟨rfl, rfl⟩
  simp only [J38_7]
  refine range_i fun r hs hp rule => ?_
  have S5 := S4.new [.ptr x 0]
  have S6 := S5.newLoop hs hp
  generalize e5 : h4.alloc (.cells [.ptr x 0] .ex) = h5 at *
  generalize e6 : h5.alloc (.loop r) = h6 at *
  generalize hlo : h5.next = lo at *
  generalize hc5 : h4.next = c5 at *
  obtain ⟨Ts, ⟨a, CV, CC, rs, rfl, hl, _⟩, S7⟩ := unbox S6
  have h8 := fr8 hl w
  have hT := frT_len (x := x) (m := m) (a := a) (first := st.first) (harts := st.harts) (CV := CV) (counts := st.counts) (CC := CC) (common := st.common) (bs := st.bs) h8
  have S7 : Sep F g h6 (FrT x m a st.first st.harts CV st.counts CC st.common st.bs rs ++ [RBox y Q st, Thing.cells t3 [.ptr y 0], Thing.cells t4 [.bool false], Thing.cells t6 [i (-1)], Thing.cells t7 [i (0 : Nat)], Thing.cells c5 [.ptr x 0], Thing.loop lo r .ready none]) := S7
  refine (walk_ok (c := c5) (x := x) (m := m) (first := st.first) (harts := st.harts) (CV := CV) (CC := CC) (counts := st.counts)
    (I := fun k h => ∃ last : Int, last < st.first + (k : Nat) ∧ Sep F g h (FrT x m a st.first st.harts CV st.counts CC st.common st.bs rs ++ [RBox y Q st, Thing.cells t3 [.ptr y 0], Thing.cells t4 [.bool false], Thing.cells t6 [i last], Thing.cells t7 [i (usedL (st.counts.take k))], Thing.cells c5 [.ptr x 0], Thing.loop lo r .ready none])) (Q := fun _ => False)
    bd.2.2 bd.1 bd.2.1 ?_ ⟨-1, by omega, S7⟩ ?_ ?_).mono ?_
  · rintro k h ⟨last, _, Sk⟩
    exact ⟨Sk.cell (13 + 5) (zat 13 hT _ 5), fr_fc Sk h8, fr_cv Sk⟩
  · rintro k h n ⟨last, hlast, Sk⟩ hk hn
    refine ⟨last, by omega, ?_⟩
    have hu : usedL (st.counts.take (k + 1)) = usedL (st.counts.take k) := by
      rw [take_step hk]; unfold usedL
      rw [List.filter_append, List.length_append]; simp [hn]
    rw [hu]; exact Sk
  · rintro k h n K' ⟨last, hlast, Sk⟩ hk hn hTr _
    have hkl := (List.getElem?_eq_some_iff.1 hk).1
    refine rule _ _ _ none _ (Sk.loopAt (13 + 6) (zat 13 hT _ 6)) ⟨_, _, rfl, ?_⟩
    simp only [R38_8]
    refine Sk.begin (13 + 6) (zat 13 hT _ 6) fun h7 S7 f7 n7 => ?_
    rw [zset 13 hT] at S7
    have z3 := S7.cell (13 + 1) (zat 13 hT _ 1)
    have z4 := S7.cell (13 + 2) (zat 13 hT _ 2)
    have z6 := S7.cell (13 + 3) (zat 13 hT _ 3)
    have z7 := S7.cell (13 + 4) (zat 13 hT _ 4)
    simp (disch := omega) only [B38_8, i, sh, sh2, shi, dec, z3, z6]
    refine (rcountB (S := Q) (st := st) (S7.at (13 + 0) (zat 13 hT _ 0)) (S7.boxlt (13 + 0) (zat 13 hT _ 0)) (st.first + (k : Nat)) (by omega)).mono ?_
    rintro _ h7 ⟨rfl, rfl⟩
    have hin : st.inR (st.first + (k : Nat)) := by unfold FSt.inR; omega
    have hcn : st.cnt (st.first + (k : Nat)) = n := by
      have := (ix_of hin).2.2
      have e : st.ix (st.first + (k : Nat)) = k := by unfold FSt.ix; omega
      rw [e, hk] at this
      exact (Option.some.inj this).symm
    rw [hcn]
    have hu : usedL (st.counts.take (k + 1)) = usedL (st.counts.take k) + 1 := by
      rw [take_step hk]; unfold usedL
      rw [List.filter_append, List.length_append]; simp [hn]
    have hule := usedL_le (st.counts.take k)
    rw [List.length_take] at hule
    have S8 := S7.store (13 + 3) (zat 13 hT _ 3) [.int .i64 (st.first + (k : Nat))]
    rw [zset 13 hT] at S8
    have z78 := S8.cell (13 + 4) (zat 13 hT _ 4)
    have S9 := S8.store (13 + 4) (zat 13 hT _ 4) [.int .i64 ((usedL (st.counts.take k) : Int) + 1)]
    rw [zset 13 hT] at S9
    simp only [i] at z6 z78
    simp (disch := omega) only [i, sh, sh2, shs, shi, dec, neq_f, z6, z78, she]
    refine S9.end_ (13 + 6) (zat 13 hT _ 6) none fun h10 S10 f10 n10 => ?_
    rw [zset 13 hT] at S10
    refine hTr h10 ⟨st.first + (k : Nat), by omega, ?_⟩
    rw [hu]
    exact S10
  · rintro _ h (⟨last, _, Sk⟩ | hF)
    · refine Sk.leave (13 + 6) (zat 13 hT _ 6) (by decide) fun h' S' f' n' => ?_
      rw [zer 13 hT] at S'
      simp only [jumpM]
      rw [List.take_length] at S'
      obtain ⟨S'', S2⟩ := rebox (D := FD x m) (z := st) S' ⟨a, CV, CC, rs, rfl, hl, w⟩
      exact hK h' S'' t7 (S2.sub (.cons_cons _ (.cons_cons _ (.cons_cons _ (.cons_cons _ (.cons _ (.cons_cons _ (.cons _ .slnil))))))))
    · exact hF.elim
theorem looks_break {t3 t4 t7 : Nat} (Sp : Sep F g h [FBox x m S st, RBox y Q st, Thing.cells t3 [.ptr y 0], Thing.cells t4 [.bool false], Thing.cells t7 [i (usedL st.counts)]]) {K : LV → LHeap → Prop}
    (hK : ∀ h' S', Sep F g h' [FBox x m S' st, RBox y Q st, Thing.cells t3 [.ptr y 0], Thing.cells t4 [.bool false], Thing.cells t7 [i (usedL st.counts)]] → J38_4 (.ptr x 0) (.ptr t3 0) (.ptr t4 0) (.ptr t7 0) h' K) : J38_3 (.ptr x 0) (.ptr t3 0) (.ptr t4 0) (.ptr t7 0) h K := by
  have w := boxWf (Sp.at 0 rfl)
  have bd := w.bounds
  simp (disch := omega) only [J38_3]
  refine All_ok.mono ?_
  rintro _ _ ⟨rfl, rfl⟩
  simp only [J38_5]
  refine range_i fun r hs hp rule => ?_
  have S5 := Sp.new [.ptr x 0]
  have S6 := S5.newLoop hs hp
  generalize e5 : h.alloc (.cells [.ptr x 0] .ex) = h5 at *
  generalize e6 : h5.alloc (.loop r) = h6 at *
  generalize hlo : h5.next = lo at *
  generalize hc5 : h.next = c5 at *
  obtain ⟨Ts, ⟨a, CV, CC, rs, rfl, hl, _⟩, S7⟩ := unbox S6
  have h8 := fr8 hl w
  have hT := frT_len (x := x) (m := m) (a := a) (first := st.first) (harts := st.harts) (CV := CV) (counts := st.counts) (CC := CC) (common := st.common) (bs := st.bs) h8
  have S7 : Sep F g h6 (FrT x m a st.first st.harts CV st.counts CC st.common st.bs rs ++ [RBox y Q st, Thing.cells t3 [.ptr y 0], Thing.cells t4 [.bool false], Thing.cells t7 [i (usedL st.counts)], Thing.cells c5 [.ptr x 0], Thing.loop lo r .ready none]) := S7
  have fin : ∀ (h' : LHeap), Sep F g h' (FrT x m a st.first st.harts CV st.counts CC st.common st.bs rs ++ [RBox y Q st, Thing.cells t3 [.ptr y 0], Thing.cells t4 [.bool false], Thing.cells t7 [i (usedL st.counts)], Thing.cells c5 [.ptr x 0]]) → J38_4 (.ptr x 0) (.ptr t3 0) (.ptr t4 0) (.ptr t7 0) h' K := fun h' S' => by
    obtain ⟨S'', S2⟩ := rebox (D := FD x m) (z := st) S' ⟨a, CV, CC, rs, rfl, hl, w⟩
    exact hK h' S'' (S2.sub (.cons_cons _ (.cons_cons _ (.cons_cons _ (.cons_cons _ (.cons_cons _ (.cons _ .slnil)))))))
  refine (walk_ok (c := c5) (x := x) (m := m) (first := st.first) (harts := st.harts) (CV := CV) (CC := CC) (counts := st.counts)
    (I := fun k h => Sep F g h (FrT x m a st.first st.harts CV st.counts CC st.common st.bs rs ++ [RBox y Q st, Thing.cells t3 [.ptr y 0], Thing.cells t4 [.bool false], Thing.cells t7 [i (usedL st.counts)], Thing.cells c5 [.ptr x 0], Thing.loop lo r .ready none])) (Q := fun h => Sep F g h (FrT x m a st.first st.harts CV st.counts CC st.common st.bs rs ++ [RBox y Q st, Thing.cells t3 [.ptr y 0], Thing.cells t4 [.bool false], Thing.cells t7 [i (usedL st.counts)], Thing.cells c5 [.ptr x 0], Thing.loop lo r .done (some (.exit 4))]))
    bd.2.2 bd.1 bd.2.1 ?_ S7 ?_ ?_).mono ?_
  · rintro k h Sk
    exact ⟨Sk.cell (13 + 4) (zat 13 hT _ 4), fr_fc Sk h8, fr_cv Sk⟩
  · rintro k h n Sk _ _
    exact Sk
  · rintro k h n K' Sk hk hn _ hQ
    refine rule _ _ _ none _ (Sk.loopAt (13 + 5) (zat 13 hT _ 5)) ⟨_, _, rfl, ?_⟩
    simp only [R38_6]
    refine Sk.begin (13 + 5) (zat 13 hT _ 5) fun h7 S7 f7 n7 => ?_
    rw [zset 13 hT] at S7
    simp only [B38_6, she]
    refine S7.end_ (13 + 5) (zat 13 hT _ 5) (some (.exit 4)) fun h10 S10 f10 n10 => ?_
    rw [zset 13 hT] at S10
    exact hQ h10 S10
  · rintro _ h (Sk | Sk)
    · refine Sk.leave (13 + 5) (zat 13 hT _ 5) (by decide) fun h' S' f' n' => ?_
      rw [zer 13 hT] at S'
      exact fin h' S'
    · refine Sk.leave (13 + 5) (zat 13 hT _ 5) (by decide) fun h' S' f' n' => ?_
      rw [zer 13 hT] at S'
      exact .inl ⟨rfl, fin h' S'⟩
end
end Go.Proofs.Ytoajcekgoalhjaa
