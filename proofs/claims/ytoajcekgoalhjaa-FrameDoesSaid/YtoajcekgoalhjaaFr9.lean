/-
  frame: Incr, back, Decr.
-/
import Derived.Test.YtoajcekgoalhjaaFr8
set_option linter.all false
namespace Go.Proofs.Ytoajcekgoalhjaa
open Go.ChangeShapes Go.WideShapes Go.ChangeAt Go.RowKit Go.Lm
set_option linter.unusedSimpArgs false
set_option linter.unusedVariables false
set_option maxRecDepth 10000
section
variable {F : Nat → Prop} {g h h' : LHeap} {x m a k : Nat} {cs : List LV} {CV CC : LV} {counts common bs bs' : List Int} {rs : List FX} {r : FX} {Zs : List Thing} {st : FSt} {S : Nat → Prop} {first : Int} {harts : Nat} {Ls : List LV} {V U : LV} {l l2 : List Int}
theorem fr_mem (Sp : Sep F g h (FrG x m a cs CV counts CC common bs rs ++ Zs)) (M : MemTo h h' a bs') (hl : bs'.length = bs.length) : Sep F g h' (FrG x m a cs CV counts CC common bs' rs ++ Zs) := by
  have S' := Sp.put 4 rfl (Thing.cells a (bs'.map B8)) M.fr M.at_ fun b hb => ⟨.inl hb, Nat.lt_of_lt_of_le (Sp.lt 4 rfl hb) M.fr.le⟩
  have e : (FrG x m a cs CV counts CC common bs rs ++ Zs).set 4 (Thing.cells a (bs'.map B8)) = FrG x m a cs CV counts CC common bs' rs ++ Zs := by
    unfold FrG
    rw [hl]
    rfl
  rw [← e]
  exact S'
theorem zero_ok (M : MemAt h m a bs) (y : Int) : Ok Try.prog 53 [.ptr m 0, i y] h fun v h' => v = i (if frameIn bs y then 0 else 10) ∧ MemTo h h' a (zeroF bs y) := by
  refine (Zero_ok M y).mono ?_
  rintro _ h' ⟨rfl, rfl⟩
  refine ⟨rfl, ?_⟩
  split
  · exact ⟨Fr.set _ rfl, get_set_eq _ _ _⟩
  · rename_i hn
    refine ⟨Fr.refl _ _, ?_⟩
    unfold zeroF
    rw [if_neg hn]
    exact M.b
theorem bs50_1 (y : Int) (h : LHeap) : buildSliceL Try.prog 50 1 [(0, i y)] h = some (.slice h.next 0 1 (.ex 1), h.alloc (.cells [i y] .ex)) := nr (by kernel_rfl)
theorem fr_push (Sp : Sep F g h (FrG x m a cs CV counts CC common bs rs ++ Zs)) (hk : rs[k]? = some r) (y : Int) (hb : r.l.length ≤ 2 ^ 32) :
    ∃ V' h', builtinL Try.prog .append [50, 50] [r.V, .slice h.next 0 1 (.ex 1)] (h.alloc (.cells [.int .i64 y] .ex)) = some (V', h') ∧ Sep F g h' (FrG x m a cs CV counts CC common bs (rs.set k ⟨V', r.l ++ [y]⟩) ++ Zs) ∧ V'.cell = true := by
  obtain ⟨V', h', e, S', c, _⟩ := Sp.push (5 + k) (fr_at hk) (bytes := 8) y (cs := [i y]) rfl (by omega)
  rw [fr_set (List.getElem?_eq_some_iff.1 hk).1] at S'
  exact ⟨V', h', (ap50 rfl _).trans e, S', c⟩
theorem fr_pushc (Sp : Sep F g h (FrG x m a cs CV counts CC common bs rs ++ Zs)) (y : Int) (hb : common.length ≤ 2 ^ 32) :
    ∃ V' h', builtinL Try.prog .append [50, 50] [CC, .slice h.next 0 1 (.ex 1)] (h.alloc (.cells [.int .i64 y] .ex)) = some (V', h') ∧ Sep F g h' (FrG x m a cs CV counts V' (common ++ [y]) bs rs ++ Zs) ∧ V'.cell = true := by
  obtain ⟨V', h', e, S', c, _⟩ := Sp.push (E := intE) (V := CC) (l := common) 2 rfl (bytes := 8) y (cs := [i y]) rfl (by omega)
  exact ⟨V', h', (ap50 rfl _).trans e, S', c⟩
theorem back_ok (Sp : Sep F g h (FrT x m a first harts CV counts CC common bs rs ++ Zs)) (h8 : rs.length = 8) (hk : rs[k]? = some r) (hb : r.l.length ≤ 4096) (hc : common.length ≤ 4096) (b1 : bs.length ≤ 1048576) (b2 : 256 ≤ bs.length) (b3 : bs.length % 256 = 0) (y : Int) :
    Ok Try.prog 59 [.ptr x 0, i k, i y] h fun _ h' => ∃ CC' rs', Sep F g h' (FrT x m a first harts CV counts CC' (if 16 < (r.l ++ [y]).length then sorted (common ++ (r.l ++ [y]).take 8) else common) (zeroF bs y) rs' ++ Zs) ∧ rs'.map (·.l) = (rs.map (·.l)).set k (if 16 < (r.l ++ [y]).length then (r.l ++ [y]).drop 8 else r.l ++ [y]) := by
  refine ok59 fun _ _ => ?_
  have c := fr_fc Sp h8
  have c0 := c.c0
  have kl := (List.getElem?_eq_some_iff.1 hk).1
  simp (disch := omega) only [F59, i, sh, sh2, c0]
  refine (zero_ok (fr_m Sp b1 b2 b3) y).mono ?_
  rintro _ h1 ⟨rfl, M1⟩
  have S1 := fr_mem Sp M1 (zeroF_len _ _)
  have hix := ix8 (x := x) (k := k) (by omega)
  have hld := FC.list (Ls := rs.map (·.V)) (k := k) (V := r.V) (fr_x S1) (by rw [List.getElem?_map, hk]; rfl)
  obtain ⟨V2, h2, happ, S2, cV2⟩ := fr_push S1 hk y (by omega)
  have hbs := bs50_1 y h1
  simp only [i] at hbs
  have hk2 : (rs.set k (⟨V2, r.l ++ [y]⟩ : FX))[k]? = some ⟨V2, r.l ++ [y]⟩ := List.getElem?_set_self kl
  have hln := (fr_row S2 hk2).len (P := Try.prog) ty50
  have hlen : (r.l ++ [y]).length = r.l.length + 1 := by simp
  by_cases hbig : 16 < (r.l ++ [y]).length
  · have c2 := FC.of (fr_x S2) (by simp [h8])
    have c12 := c2.c12
    obtain ⟨U, hcut, RU⟩ := cut_hi (fr_row S2 hk2) (fr_grow S2 hk2) (j := 8) (by show 8 ≤ (r.l ++ [y]).length; omega)
    have hcut : cutT Try.prog 50 V2 none (some (.int .i64 8)) none (limL V2 h2) = some U := hcut
    obtain ⟨C3, h3, happ3, S3, cC3⟩ := fr_appc S2 RU (by rw [List.length_take]; omega)
    obtain ⟨h4, hst4, S4⟩ := fr_stc S3 (by simp [h8]) (V := C3) cC3
    have c4 := (FC.of (fr_x S4) (by simp [h8])).c12
    simp (disch := omega) only [J59_0, J59_1, i, sh, sh2, shi, dec, hix, hld, hbs, happ, b_len, hln, c12, hcut, happ3, hst4, c4]
    refine ⟨⟨?_, trivial⟩, trivial⟩
    have l4 : (common ++ (r.l ++ [y]).take 8).length ≤ 4104 := by rw [List.length_append, List.length_take]; omega
    refine (sort_ok (l := common ++ (r.l ++ [y]).take 8) sort66 (fr_cc S4) (S4.mine (E := intE) (V := C3) 2 rfl) (by omega)).mono ?_
    rintro _ h5 ⟨rfl, R5, M5, G5, f5, n5⟩
    have S5 : Sep F g h5 (FrG x m a (frC m first harts CV (rs.map (·.V)) C3) CV counts C3 (sorted (common ++ (r.l ++ [y]).take 8)) (zeroF bs y) (rs.set k ⟨V2, r.l ++ [y]⟩) ++ Zs) :=
      S4.put 2 rfl (Thing.vec intE C3 (sorted (common ++ (r.l ++ [y]).take 8))) f5 ⟨R5, G5 (fr_growc S4), M5⟩ fun b hb => ⟨.inl hb, by rw [n5]; exact S4.lt 2 rfl hb⟩
    obtain ⟨U6, hcut6, RU6⟩ := cut_lo (fr_row S5 hk2) (fr_grow S5 hk2) (j := 8) (by show 8 ≤ (r.l ++ [y]).length; omega)
    have hcut6 : cutT Try.prog 50 V2 (some (.int .i64 8)) none none (limL V2 h5) = some U6 := hcut6
    simp (disch := omega) only [i, sh, sh2, hcut6]
    refine (clone64_ok RU6 (by rw [List.length_drop]; left; show ((r.l ++ [y]).length - 8) * 8 * 2 ≤ _; omega)).mono ?_
    rintro V7 h7 ⟨O, mi, f⟩
    have S7 := fr_newk S5 hk2 O mi f
    rw [List.set_set] at S7
    obtain ⟨h8', hst8, S8⟩ := fr_stk S7 (by simp [h8]) (k := k) (V := V7) (by omega) O.row.cell
    simp (disch := omega) only [J59_2, i, sh, sh2, hix, hst8]
    refine ⟨C3, rs.set k ⟨V7, (r.l ++ [y]).drop 8⟩, ?_, by rw [if_pos hbig, List.map_set]⟩
    rw [if_pos hbig]
    unfold FrT
    rw [List.map_set]
    exact S8
  · simp (disch := omega) only [J59_0, J59_1, J59_2, i, sh, sh2, shi, dec, hix, hld, hbs, happ, b_len, hln]
    obtain ⟨h3, hst, S3⟩ := fr_stk S2 (by simp [h8]) (k := k) (V := V2) (by omega) cV2
    simp (disch := omega) only [i, sh, sh2, hst]
    refine ⟨CC, rs.set k ⟨V2, r.l ++ [y]⟩, ?_, by rw [if_neg hbig, List.map_set]⟩
    rw [if_neg hbig]
    unfold FrT
    rw [List.map_set]
    exact S3
theorem cnt_ok (Sp : Sep F g h (FrT x m a st.first st.harts CV st.counts CC st.common st.bs rs ++ Zs)) (hl : rs.map (·.l) = st.lists) (w : FWf st) (y : Int) (y0 : -9223372036854775808 ≤ y) (y1 : y < 9223372036854775808) : Ok Try.prog 30 [.ptr x 0, i y] h fun v h' => v = i (st.cnt y) ∧ h' = h :=
  count_ok (fr_fc Sp (fr8 hl w)) (fr_cv Sp) w.bounds.1 w.bounds.2.1 w.bounds.2.2 y y0 y1
/-- A count is loaded and another one is stored. -/
theorem fr_turn (Sp : Sep F g h (FrT x m a st.first st.harts CV st.counts CC st.common st.bs rs ++ Zs)) (hl : rs.map (·.l) = st.lists) (w : FWf st) {y : Int} (hy : st.inR y) (c : Int) :
    y - st.first = (st.ix y : Nat) ∧ ∃ b off h', ixAddrL none 1 CV (.int .i64 (st.ix y : Nat)) = some (.ptr b off) ∧ cellO none off (h.get b) = some (.int .i64 (st.cnt y)) ∧ storeV 1 (.ptr b off) (.int .i64 c) h = some h' ∧ Sep F g h' (FrT x m a st.first st.harts CV (setC st y c).counts CC st.common st.bs rs ++ Zs) := by
  obtain ⟨i1, i2, i3⟩ := ix_of hy
  obtain ⟨b, off, e1, e2⟩ := at_ix (fr_cv Sp) i1 _ i3
  obtain ⟨b', off', h', e3, e4, S'⟩ := fr_stn Sp i1 c
  rw [e1] at e3
  cases e3
  exact ⟨i2.symm, b, off, h', e1, e2, e4, S'⟩
theorem Incr_ok (B : (FBox x m S st).ok g) (lt : ∀ b, S b → b < g.next) (y : Int) (y0 : -9223372036854775808 ≤ y) (y1 : y < 9223372036854775808) : Ok Try.prog 29 [.ptr x 0, i y] g fun v h => v = i (incrS st y).2 ∧ After (FD x m) S g h (incrS st y).1 := by
  obtain ⟨a, CV, CC, rs, Sp, hl, w⟩ := fr_open B lt
  have h8 := fr8 hl w
  have c := fr_fc Sp h8
  refine ok29 fun _ _ => ?_
  simp (disch := omega) only [F29]
  refine (cnt_ok Sp hl w y y0 y1).mono ?_
  rintro _ h ⟨rfl, rfl⟩
  refine (made_ok c).mono ?_
  rintro _ h ⟨rfl, rfl⟩
  have wf := incr_wf w y
  unfold incrS at wf ⊢
  have hle := w.cnt_le y
  by_cases h0 : st.cnt y = 0
  · rw [if_pos h0]
    rw [h0]
    simp (disch := omega) only [i, sh, sh2, shi, dec]
    exact ⟨trivial, fr_shut Sp hl w⟩
  · by_cases h1 : 1048576 ≤ st.cnt y
    · rw [if_neg h0, if_pos h1]
      simp (disch := omega) only [i, sh, sh2, shi, dec]
      exact ⟨trivial, fr_shut Sp hl w⟩
    · rw [if_neg h0, if_neg h1] at wf ⊢
      obtain ⟨e, b, off, h', e1, e2, e3, S'⟩ := fr_turn Sp hl w (cnt_pos h0) (st.cnt y + 1)
      have c1 := c.c1
      have c3 := c.c3
      have i1 := (ix_of (cnt_pos h0)).1
      have bd := w.bounds.2.2
      simp (disch := omega) only [i, sh, sh2, shi, dec, c1, c3, e, e1, e2, e3]
      exact ⟨⟨trivial, fr_shut (st := setC st y (st.cnt y + 1)) S' hl wf⟩, trivial⟩
theorem Decr_ok (B : (FBox x m S st).ok g) (lt : ∀ b, S b → b < g.next) (k y : Int) (y0 : -9223372036854775808 ≤ y) (y1 : y < 9223372036854775808) : Ok Try.prog 25 [.ptr x 0, i k, i y] g fun v h => v = .tuple [.bool (decrS st k y).2.1, i (decrS st k y).2.2] ∧ After (FD x m) S g h (decrS st k y).1 := by
  obtain ⟨a, CV, CC, rs, Sp, hl, w⟩ := fr_open B lt
  have h8 := fr8 hl w
  have hh := w.h8
  have c := fr_fc Sp h8
  refine ok25 fun _ _ => ?_
  simp (disch := omega) only [F25]
  refine (made_ok c).mono ?_
  rintro _ h ⟨rfl, rfl⟩
  simp (disch := omega) only [i, sh, sh2]
  refine (isH_ok c k).mono ?_
  rintro _ h ⟨rfl, rfl⟩
  have wf := decr_wf w k y
  unfold decrS at wf ⊢
  have hle := w.cnt_le y
  by_cases hk : st.isH k
  · have ed : decide (0 ≤ k ∧ k < (st.harts : Int)) = true := decide_eq_true hk
    simp (disch := omega) only [i, sh, sh2, ed]
    refine (cnt_ok Sp hl w y y0 y1).mono ?_
    rintro _ h ⟨rfl, rfl⟩
    rw [if_pos hk] at wf ⊢
    by_cases h0 : st.cnt y = 0
    · rw [if_pos h0, h0]
      simp (disch := omega) only [i, sh, sh2, shi, dec]
      exact ⟨trivial, fr_shut Sp hl w⟩
    · rw [if_neg h0] at wf ⊢
      obtain ⟨e, b, off, h', e1, e2, e3, S'⟩ := fr_turn Sp hl w (cnt_pos h0) (st.cnt y - 1)
      have c1 := c.c1
      have c3 := c.c3
      have i1 := (ix_of (cnt_pos h0)).1
      have bd := w.bounds.2.2
      simp (disch := omega) only [i, sh, sh2, shi, dec, c1, c3, e, e1, e2, e3]
      refine ⟨?_, trivial⟩
      have hcl : (setC st y (st.cnt y - 1)).counts.length = st.counts.length := by simp [setC]
      refine (count_ok (fr_fc S' h8) (fr_cv S') w.bounds.1 w.bounds.2.1 (by rw [hcl]; exact w.bounds.2.2) y y0 y1).mono ?_
      rintro _ h ⟨rfl, rfl⟩
      have ec : cntF st.first (setC st y (st.cnt y - 1)).counts y = st.cnt y - 1 := by
        have := setC_cnt (cnt_pos h0) (st.cnt y - 1) y
        rw [if_pos rfl] at this
        exact this
      rw [ec]
      by_cases h1 : 0 < st.cnt y - 1
      · rw [if_pos h1] at wf ⊢
        simp (disch := omega) only [i, sh, sh2, shi, dec]
        exact ⟨trivial, fr_shut (st := setC st y (st.cnt y - 1)) S' hl wf⟩
      · rw [if_neg h1] at wf ⊢
        have e0 : st.cnt y - 1 = 0 := by omega
        rw [e0] at S' ⊢
        simp (disch := omega) only [i, sh, sh2, shi, dec]
        unfold FSt.isH at hk
        obtain ⟨k, rfl⟩ : ∃ n : Nat, k = n := ⟨k.toNat, by omega⟩
        rw [Int.toNat_natCast] at wf ⊢
        obtain ⟨r, hr, er⟩ := fr_r hl w (k := k) (by omega)
        have hle := w.listLe (k := k) (l := st.listOf k) (getD_some (by rw [w.l8]; omega))
        have hfl := w.freeLe
        refine (back_ok S' h8 hr (by rw [er]; exact hle) (by unfold FSt.freeN at hfl; omega) w.b1 w.b2 w.b3 y).mono ?_
        rintro _ h2 ⟨CC', rs', S2, hl2⟩
        refine ⟨trivial, ?_⟩
        rw [er, hl] at hl2
        rw [er] at S2
        have hlo : (setC st y 0).listOf k = st.listOf k := rfl
        refine fr_shut (a := a) (CV := CV) (CC := CC') (rs := rs') ?_ ?_ wf
        · unfold backS
          rw [hlo]
          split
          · rename_i hb; rw [if_pos hb] at S2; exact S2
          · rename_i hb; rw [if_neg hb] at S2; exact S2
        · unfold backS
          rw [hlo]
          split
          · rename_i hb; rw [if_pos hb] at hl2; exact hl2
          · rename_i hb; rw [if_neg hb] at hl2; exact hl2
  · have ed : decide (0 ≤ k ∧ k < (st.harts : Int)) = false := decide_eq_false hk
    simp (disch := omega) only [i, sh, sh2, ed]
    rw [if_neg hk]
    exact ⟨rfl, fr_shut Sp hl w⟩
end
end Go.Proofs.Ytoajcekgoalhjaa
