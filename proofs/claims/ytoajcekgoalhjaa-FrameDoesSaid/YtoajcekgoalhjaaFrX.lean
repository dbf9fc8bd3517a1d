/-
  frame, the reference: Decr.
-/
import Derived.Test.YtoajcekgoalhjaaFrS
set_option linter.all false
namespace Go.Proofs.Ytoajcekgoalhjaa
open Go.ChangeShapes Go.WideShapes Go.ChangeAt Go.RowKit Go.Lm
set_option linter.unusedSimpArgs false
set_option linter.unusedVariables false
set_option maxRecDepth 10000
/-- What 'with' makes rises, if the list rose. -/
theorem with_pw {l : List Int} {y : Int} {j : Nat} (h : l.Pairwise (· ≤ ·)) (h1 : ∀ v ∈ l.take j, v < y) (h2 : ∀ v, l[j]? = some v → y ≤ v) : (l.take j ++ [y] ++ l.drop j).Pairwise (· ≤ ·) ∧ (l.take j ++ [y] ++ l.drop j).Perm (l ++ [y]) := by
  have hd : ∀ v ∈ l.drop j, y ≤ v := by
    by_cases hj : j < l.length
    · have e := List.drop_eq_getElem_cons hj
      have p : (l.drop j).Pairwise (· ≤ ·) := h.sublist (List.drop_sublist _ _)
      have h0 := h2 _ (List.getElem?_eq_getElem hj)
      rw [e] at p ⊢
      rw [List.pairwise_cons] at p
      intro v hv
      rcases List.mem_cons.1 hv with rfl | hv
      · exact h0
      · have := p.1 v hv; omega
    · rw [List.drop_of_length_le (by omega)]; intro v hv; cases hv
  have ht : (l.take j).Pairwise (· ≤ ·) := h.sublist (List.take_sublist _ _)
  have hdp : (l.drop j).Pairwise (· ≤ ·) := h.sublist (List.drop_sublist _ _)
  refine ⟨?_, ?_⟩
  · rw [List.append_assoc, List.pairwise_append]
    refine ⟨ht, ?_, fun a ha b hb => ?_⟩
    · rw [List.singleton_append, List.pairwise_cons]; exact ⟨hd, hdp⟩
    · have := h1 a ha
      rcases List.mem_append.1 hb with hb | hb
      · rw [List.mem_singleton.1 hb]; omega
      · have := hd b hb; omega
  · have e : (l.take j ++ [y] ++ l.drop j).Perm (l.take j ++ l.drop j ++ [y]) := by
      rw [List.append_assoc, List.append_assoc]
      exact List.Perm.append_left _ List.perm_append_comm
    rw [List.take_append_drop] at e
    exact e
theorem sorted_of {l m : List Int} (h : m.Pairwise (· ≤ ·)) (p : m.Perm l) : m = sorted l :=
  List.Perm.eq_of_pairwise (le := (· ≤ ·)) (fun a b _ _ h1 h2 => by omega) h ((sorted_pw l).imp fun h => by simpa using h) (p.trans (sorted_perm l).symm)
section
variable {F : Nat → Prop} {g h h' : LHeap} {x m a k c : Nat} {cs Vs : List LV} {CV CC SV W : LV} {counts common bs bs' : List Int} {rs : List FX} {r : FX} {Zs Ts : List Thing} {st : FSt} {S : Nat → Prop} {first : Int} {harts : Nat} {V U : LV} {l l2 : List Int}
/-- A list is given back, as the reference has it. -/
theorem rback_ok (Sp : Sep S g h (RT x first CV counts SV CC common rs ++ [])) (C : Capds rs) (hk : rs[k]? = some r) (h4 : r.l.length ≤ 4096) (hc : common.length ≤ 4096) (so : common.Pairwise (· ≤ ·)) (y : Int) {K : LV → LHeap → Prop}
    (hK : ∀ h' CC' rs', Sep S g h' (RT x first CV counts SV CC' (if 16 < (r.l ++ [y]).length then sorted (common ++ (r.l ++ [y]).take 8) else common) rs' ++ []) → Capds rs' → rs'.map (·.l) = (rs.map (·.l)).set k (if 16 < (r.l ++ [y]).length then (r.l ++ [y]).drop 8 else r.l ++ [y]) → K (.tuple [.bool true, i 0]) h') :
    J68_4 (.ptr x 0) (i k) (i y) h K := by
  have hbs0 := bs50_0
  have xa := rg_x (Sp.temp (.cells [] .ex))
  obtain ⟨b1, o1, ix1, ld1⟩ := rg_ld (Sp.temp (.cells [] .ex)) hk
  have hlt : ∀ b, r.V.obj = some b → b < h.next := fun b hb => Sp.lt (T := Thing.row intE r.V r.l) _ (rg_at hk) hb
  obtain ⟨W1, h1, app1, S1, f1⟩ := copy_ap Sp (rg_row Sp hk) hlt (by omega)
  have hbs := bs50_1 y h1
  simp only [i] at hbs
  obtain ⟨W2, h2, app2, S2⟩ := vpush (V := W1) (l := r.l) S1 (q := (RT x first CV counts SV CC common rs ++ []).length) (by simp) y (by omega)
  rw [List.set_append_right _ _ (Nat.le_refl _), Nat.sub_self, List.set_cons_zero] at S2
  have hln := (S2.row (E := intE) (V := W2) (l := r.l ++ [y]) (RT x first CV counts SV CC common rs ++ []).length (by simp)).len (P := Try.prog) ty50
  have hlen : (r.l ++ [y]).length = r.l.length + 1 := by simp
  by_cases hbig : 16 < (r.l ++ [y]).length
  · have RW := S2.row (E := intE) (V := W2) (l := r.l ++ [y]) (RT x first CV counts SV CC common rs ++ []).length (by simp)
    have CW := last_capd S2
    have ltW : ∀ b, W2.obj = some b → b < h2.next := fun b hb => S2.lt (T := Thing.vec intE W2 (r.l ++ [y])) (RT x first CV counts SV CC common rs ++ []).length (by simp) hb
    obtain ⟨U3, cut3, R3, o3⟩ := cut_hi' RW CW (j := 8) (by omega)
    have cut3 : cutT Try.prog 50 W2 none (some (.int .i64 8)) none (limL W2 h2) = some U3 := cut3
    have l8 : ((r.l ++ [y]).take 8).length = 8 := by rw [List.length_take]; omega
    have hl3 := R3.len (P := Try.prog) ty50 h2
    rw [l8] at hl3
    have hl3 : lenL Try.prog 50 U3 h2 = some (.int .i64 8) := hl3
    simp (disch := omega) only [J68_4, J68_5, J68_7, J68_9, i, sh, sh2, shi, dec, hbs0, xa, ix1, ld1, app1, hbs, app2, b_len, hln, cut3, hl3]
    refine loop_n (fun n s h' => ∃ (j : Nat) (CC' : LV) (cm : List Int), s = i (j : Int) ∧ j + n = 8 ∧ Sep S g h' (RT x first CV counts SV CC' cm rs ++ [] ++ [Thing.vec intE W2 (r.l ++ [y])]) ∧ cm.Pairwise (· ≤ ·) ∧ cm.Perm (common ++ (r.l ++ [y]).take j) ∧ Row h' U3 intE ((r.l ++ [y]).take 8)) (n := 8) ⟨0, CC, common, rfl, rfl, S2, so, by simp, R3⟩ ?_
    rintro n s h5 ⟨j, CC5, cm, rfl, hj, S5, so5, p5, R5⟩
    have hcm := p5.length_eq
    rw [List.length_append, List.length_take] at hcm
    have RW5 := S5.row (E := intE) (V := W2) (l := r.l ++ [y]) (RT x first CV counts SV CC5 cm rs ++ []).length (by simp)
    have x5 := rg_x S5.init
    have CW5 := last_capd S5
    cases n with
    | zero =>
      obtain rfl : j = 8 := by omega
      obtain ⟨U6, cut6, R6, o6⟩ := cut_lo' RW5 CW5 (j := 8) (by omega)
      have cut6 : cutT Try.prog 50 W2 (some (.int .i64 8)) none none (limL W2 h5) = some U6 := cut6
      have hi : (RT x first CV counts SV CC5 cm rs ++ [] ++ [Thing.vec intE W2 (r.l ++ [y])])[(RT x first CV counts SV CC5 cm rs ++ []).length]? = some (Thing.vec intE W2 (r.l ++ [y])) := by simp
      have S6 := S5.put _ hi (Thing.row intE U6 ((r.l ++ [y]).drop 8)) (Fr.refl _ _) R6 fun b hb => ⟨.inl (o6 b hb), S5.lt _ hi (o6 b hb)⟩
      rw [List.set_append_right _ _ (Nat.le_refl _), Nat.sub_self, List.set_cons_zero] at S6
      have C6 : Capd U6 1 := by
        obtain ⟨U', e', _, c', _⟩ := RW5.cut CW5 (i := 8) (j := (r.l ++ [y]).length) (by omega) (Nat.le_refl _) (some 8) none rfl rfl
        have e2 := ((cut_t ty50 sz3 (by decide) W2 (limL W2 h5)).2.1 .i64 8).trans e'
        rw [cut6] at e2
        cases e2
        exact c'
      obtain ⟨b7, o7, h7, ix7, st7, S7⟩ := rg_swap S6 hk
      simp (disch := omega) only [L68_10, J68_8, J68_6, i, sh, sh2, shi, dec, cut6, x5, ix7, st7]
      have ecm := sorted_of so5 p5
      refine hK _ CC5 (rs.set k ⟨U6, (r.l ++ [y]).drop 8⟩) ?_ (C.set C6) ?_
      · rw [if_pos hbig, ← ecm]; exact S7.init
      · rw [if_pos hbig, List.map_set]
    | succ n =>
      have hy := List.getElem?_eq_getElem (show j < ((r.l ++ [y]).take 8).length by omega)
      generalize ((r.l ++ [y]).take 8)[j]'(by omega) = v at hy
      have hy' : (r.l ++ [y])[j]? = some v := by rw [List.getElem?_take_of_lt (by omega)] at hy; exact hy
      obtain ⟨bv, ov, ixv, ldv⟩ := at_ix R5 (j := j) (by omega) v hy
      simp (disch := omega) only [L68_10, i, sh, sh2, shi, dec, ixv, ldv, x5]
      have hltc : ∀ b, CC5.obj = some b → b < h5.next := fun b hb => S5.lt (T := Thing.vec intE CC5 cm) 3 rfl hb
      refine (with_ok (rg_cc S5.init) (rg_growc S5.init) hltc (by omega) v).mono ?_
      rintro W6 h6 ⟨q, q1, q2, O6, M6, f6⟩
      have S6 := S5.vec W6 O6.row O6.grow M6 f6 O6.lo
      have e6 : (RT x first CV counts SV CC5 cm rs ++ [] ++ [Thing.vec intE W2 (r.l ++ [y])]) = RT x first CV counts SV CC5 cm rs ++ [Thing.vec intE W2 (r.l ++ [y])] := by rw [List.append_nil]
      rw [e6] at S6
      obtain ⟨h7, st7, S7, f7⟩ := rg_putc S6
      have hi : (RT x first CV counts SV CC5 cm rs ++ [] ++ [Thing.vec intE W2 (r.l ++ [y])])[(RT x first CV counts SV CC5 cm rs ++ []).length]? = some (Thing.vec intE W2 (r.l ++ [y])) := by simp
      have ltW5 : ∀ b, W2.obj = some b → b < h5.next := fun b hb => S5.lt _ hi hb
      have neW : ∀ b, W2.obj = some b → b ≠ x := fun b hb e => S5.apart hi (j := 0) rfl (by simp [RG]) (a := b) hb e
      have R7 : Row h7 U3 intE ((r.l ++ [y]).take 8) := R5.fr fun b hb => by
        have hl := ltW5 b (o3 b hb)
        rw [f7.eq b (Nat.lt_of_lt_of_le hl f6.le) (neW b (o3 b hb)), f6.eq b hl id]
      have x6 := rg_x S6.init
      simp (disch := omega) only [i, sh, sh2, shi, dec, x6, st7]
      obtain ⟨w1, w2⟩ := with_pw so5 q1 q2
      refine ⟨n, by omega, j + 1, W6, _, rfl, by omega, by rw [List.append_nil]; exact S7, w1, w2.trans ?_, R7⟩
      rw [take_step hy', ← List.append_assoc]
      exact p5.append_right _
  · simp (disch := omega) only [J68_4, J68_5, J68_7, J68_6, i, sh, sh2, shi, dec, hbs0, xa, ix1, ld1, app1, hbs, app2, b_len, hln]
    have C2 := last_capd S2
    have x2 := rg_x S2.init
    obtain ⟨b7, o7, h7, ix7, st7, S7⟩ := rg_swap (vec_row S2) hk
    try simp (disch := omega) only [i, sh, sh2, x2, ix7, st7]
    refine hK _ CC (rs.set k ⟨W2, r.l ++ [y]⟩) ?_ (C.set C2) ?_
    · rw [if_neg hbig]; exact S7.init
    · rw [if_neg hbig, List.map_set]
theorem RDecr_ok (B : (RBox x S st).ok g) (lt : ∀ b, S b → b < g.next) (k y : Int) (y1 : y < 9223372036854775808) : Ok Try.prog 68 [.ptr x 0, i k, i y] g fun v h => v = .tuple [.bool (decrS st k y).2.1, i (decrS st k y).2.2] ∧ After (RD x) S g h (decrS st k y).1 := by
  obtain ⟨CV, SV, CC, rs, Sp, hl, w⟩ := rd_open B lt
  have h8 := rd_len hl.1 w
  have hh := w.h8
  have x0 := rg_x Sp
  have bd := w.bounds
  have hls : lenL Try.prog 103 SV g = some (.int .i64 (st.harts : Int)) := by rw [(rg_sv Sp).len ty103, List.length_map, h8]
  refine ok68 fun _ _ => ?_
  have wf := decr_wf w k y
  have hle := w.cnt_le y
  by_cases hk : st.isH k
  · have hk' := hk
    unfold FSt.isH at hk'
    obtain ⟨k, rfl⟩ : ∃ n : Nat, k = n := ⟨k.toNat, by omega⟩
    have hkn : k < st.harts := by omega
    obtain ⟨r, hr, er, hle4⟩ := rd_r hl.1 w hkn
    simp (disch := omega) only [F68, J68_0, J68_1, i, sh, sh2, shi, dec, x0, b_len, hls]
    refine (rcount_ok Sp bd.1 bd.2.1 bd.2.2 y y1).mono ?_
    rintro _ g ⟨rfl, rfl⟩
    rw [← cnt_eq]
    unfold decrS at wf ⊢
    rw [if_pos hk] at wf ⊢
    by_cases h0 : st.cnt y = 0
    · rw [if_pos h0, h0]
      simp (disch := omega) only [i, sh, sh2, shi, dec]
      exact ⟨trivial, rd_shut Sp hl w⟩
    · rw [if_neg h0] at wf ⊢
      obtain ⟨i1, i2, i3⟩ := ix_of (cnt_pos h0)
      obtain ⟨b, off, h', e1, e2, e3, S'⟩ := rg_stn Sp i1 (st.cnt y - 1)
      have e2 := e2 _ i3
      have i2 := i2.symm
      have hcl : (setC st y (st.cnt y - 1)).counts.length = st.counts.length := by simp [setC]
      have S' : Sep S g h' (RT x st.first CV (setC st y (st.cnt y - 1)).counts SV CC st.common rs ++ []) := S'
      simp (disch := omega) only [J68_2, J68_3, i, sh, sh2, shi, dec, x0, i2, e1, e2, e3]
      refine ⟨?_, trivial⟩
      refine (rcount_ok S' bd.1 bd.2.1 (by rw [hcl]; exact bd.2.2) y y1).mono ?_
      rintro _ h' ⟨rfl, rfl⟩
      have ec : cntF st.first (setC st y (st.cnt y - 1)).counts y = st.cnt y - 1 := by
        have := setC_cnt (cnt_pos h0) (st.cnt y - 1) y
        rw [if_pos rfl] at this
        exact this
      rw [ec]
      by_cases h1 : 0 < st.cnt y - 1
      · rw [if_pos h1] at wf ⊢
        simp (disch := omega) only [i, sh, sh2, shi, dec]
        exact ⟨trivial, rd_shut (st := setC st y (st.cnt y - 1)) S' hl wf⟩
      · rw [if_neg h1] at wf ⊢
        have e0 : st.cnt y - 1 = 0 := by omega
        rw [e0] at S' ⊢
        simp (disch := omega) only [i, sh, sh2, shi, dec]
        rw [Int.toNat_natCast] at wf ⊢
        have hfl := w.freeLe
        refine rback_ok S' hl.2 hr hle4 (by unfold FSt.freeN at hfl; omega) (w.so.imp fun h => by simpa using h) y fun h2 CC' rs' S2 C2 hl2 => ⟨rfl, ?_⟩
        rw [er, hl.1] at hl2
        rw [er] at S2
        have hlo : (setC st y 0).listOf k = st.listOf k := rfl
        refine rd_shut (CV := CV) (SV := SV) (CC := CC') (rs := rs') ?_ ⟨?_, C2⟩ wf
        · unfold backS
          rw [hlo]
          split
          · rename_i hb; rw [if_pos hb] at S2; exact S2
          · rename_i hb; rw [if_neg hb] at S2; exact S2
        · unfold backS
          rw [hlo]
          split
          · rename_i hb; rw [if_pos hb] at hl2; rw [hl2]; exact List.take_set.symm
          · rename_i hb; rw [if_neg hb] at hl2; rw [hl2]; exact List.take_set.symm
  · unfold decrS
    rw [if_neg hk]
    unfold FSt.isH at hk
    by_cases h0 : k < 0
    · simp (disch := omega) only [F68, J68_0, i, sh, sh2, shi, dec]
      exact ⟨trivial, rd_shut Sp hl w⟩
    · simp (disch := omega) only [F68, J68_0, i, sh, sh2, shi, dec, x0, b_len, hls]
      exact ⟨trivial, rd_shut Sp hl w⟩
end
end Go.Proofs.Ytoajcekgoalhjaa
