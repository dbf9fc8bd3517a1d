/-
  frame: Alloc, Incr, Decr.
-/
import Derived.Test.YtoajcekgoalhjaaFr7
set_option linter.all false
namespace Go.Proofs.Ytoajcekgoalhjaa
open Go.ChangeShapes Go.WideShapes Go.ChangeAt Go.RowKit Go.Lm
set_option linter.unusedSimpArgs false
set_option maxRecDepth 10000
theorem last_at {l : List Int} {w : Nat} (h : l.length = w + 1) : l[w]? = some (l.getLastD 0) := by
  rw [List.getLastD_eq_getLast?, List.getLast?_eq_getElem?, h, Nat.add_sub_cancel, List.getElem?_eq_getElem (by omega)]
  rfl
section
variable {F : Nat → Prop} {g h h' : LHeap} {x m a k : Nat} {cs : List LV} {CV CC : LV} {counts common bs : List Int} {rs : List FX} {r : FX} {Zs : List Thing} {st : FSt} {S : Nat → Prop} {first : Int} {harts : Nat} {Ls : List LV} {V U : LV} {l l2 : List Int}
/-- A count is stored. -/
theorem fr_stn (Sp : Sep F g h (FrG x m a cs CV counts CC common bs rs ++ Zs)) {j : Nat} (hj : j < counts.length) (c : Int) : ∃ b off h', ixAddrL none 1 CV (.int .i64 (j : Int)) = some (.ptr b off) ∧ storeV 1 (.ptr b off) (.int .i64 c) h = some h' ∧ Sep F g h' (FrG x m a cs CV (counts.set j c) CC common bs rs ++ Zs) := by
  obtain ⟨b, off, h', e1, e2, S', _⟩ := Sp.stf (E := intE) (V := CV) (l := counts) 1 rfl (k := j) (j := 0) c (v := i c) rfl (List.getElem?_eq_getElem hj) (by decide) rfl
  have := (fr_cv Sp).ix (k := .i64) hj
  rw [e1] at this
  exact ⟨b, off, h', this, e2, S'⟩
theorem fr_cutk (Sp : Sep F g h (FrG x m a cs CV counts CC common bs rs ++ Zs)) (hk : rs[k]? = some r) {w : Nat} (hw : r.l.length = w + 1) : ∃ U, cutT Try.prog 50 r.V none (some (.int .i64 (w : Int))) none (limL r.V h) = some U ∧ U.cell = true ∧ Sep F g h (FrG x m a cs CV counts CC common bs (rs.set k ⟨U, r.l.dropLast⟩) ++ Zs) := by
  have R := fr_row Sp hk
  have G := fr_grow Sp hk
  have M : Mine h r.V := Sp.mine _ (fr_at hk)
  obtain ⟨U, e, R', _, ob, mi⟩ := R.cut G.capd (i := 0) (j := w) (by omega) (by omega) none (some w) rfl rfl
  have G' := cut_grow R (by omega) G M e
  have R2 : Row h U intE r.l.dropLast := by
    rw [List.dropLast_eq_take, hw, Nat.add_sub_cancel]
    simpa using R'
  refine ⟨U, (((cut_t ty50 sz3 (by decide) _ _).1 _ _).trans e), R'.cell, ?_⟩
  have lt : ∀ b, r.V.obj = some b → b < h.next := fun b hb => Sp.lt _ (fr_at hk) hb
  have S' := Sp.put (5 + k) (fr_at hk) (Thing.vec intE U r.l.dropLast) (Fr.refl _ _) ⟨R2, G', mi M⟩ fun b hb => ⟨.inl (ob b hb), lt b (ob b hb)⟩
  rw [fr_set (List.getElem?_eq_some_iff.1 hk).1] at S'
  exact S'
theorem pop_ok (Sp : Sep F g h (FrT x m a first harts CV counts CC common bs rs ++ Zs)) (h8 : rs.length = 8) (hk : rs[k]? = some r) {w : Nat} (hw : r.l.length = w + 1) (hb : r.l.length ≤ 4096) {j : Nat} (hj : r.l.getLastD 0 - first = j) (hjl : j < counts.length) (f0 : 0 ≤ first) (f1 : first ≤ 4096) (cl : counts.length ≤ 4096) {K : LV → LHeap → Prop}
    (hK : ∀ h' rs', Sep F g h' (FrT x m a first harts CV (counts.set j 1) CC common bs rs' ++ Zs) → rs'.map (·.l) = (rs.map (·.l)).set k r.l.dropLast → K (.tuple [i (r.l.getLastD 0), i 0]) h') : J22_2 (.ptr x 0) (i k) h K := by
  have c := fr_fc Sp h8
  have c1 := c.c1
  have c3 := c.c3
  have kl := (List.getElem?_eq_some_iff.1 hk).1
  have hix := ix8 (x := x) (k := k) (by omega)
  have hld := FC.list (Ls := rs.map (·.V)) (k := k) (V := r.V) (fr_x Sp) (by rw [List.getElem?_map, hk]; rfl)
  have hl := (fr_row Sp hk).len (P := Try.prog) ty50
  obtain ⟨b1, o1, ix1, ld1⟩ := at_ix (fr_row Sp hk) (j := w) (by omega) _ (last_at hw)
  obtain ⟨U, hcut, cU, S1⟩ := fr_cutk Sp hk hw
  obtain ⟨h2, hst, S2⟩ := fr_stk S1 (by simp [h8]) (k := k) (V := U) (by omega) cU
  have c' := FC.of (fr_x S2) (by simp [h8])
  have c1' := c'.c1
  have c3' := c'.c3
  obtain ⟨b3, o3, h3, ix3, st3, S3⟩ := fr_stn S2 (j := j) hjl 1
  have ew : (r.l.length : Int) - 1 = w := by omega
  simp (disch := omega) only [J22_2, i, sh, sh2, shi, dec, hix, hld, b_len, hl, ew, ix1, ld1, hcut, hst, c1', c3', hj, ix3, st3]
  refine ⟨⟨hK _ (rs.set k ⟨U, r.l.dropLast⟩) ?_ (by rw [List.map_set]), trivial⟩, trivial⟩
  unfold FrT
  rw [List.map_set]
  exact S3
theorem fr_open (B : (FBox x m S st).ok g) (lt : ∀ b, S b → b < g.next) : ∃ a CV CC rs, Sep S g g (FrT x m a st.first st.harts CV st.counts CC st.common st.bs rs ++ []) ∧ rs.map (·.l) = st.lists ∧ FWf st := by
  obtain ⟨Ts, ⟨a, CV, CC, rs, rfl, h1, h2⟩, Sp⟩ := box_open B lt
  exact ⟨a, CV, CC, rs, by rw [List.append_nil]; exact Sp, h1, h2⟩
theorem fr_shut (Sp : Sep S g h (FrT x m a st.first st.harts CV st.counts CC st.common st.bs rs ++ [])) (hl : rs.map (·.l) = st.lists) (w : FWf st) : After (FD x m) S g h st := by
  rw [List.append_nil] at Sp
  exact Sp.after ⟨a, CV, CC, rs, rfl, hl, w⟩
theorem fr8 (hl : rs.map (·.l) = st.lists) (w : FWf st) : rs.length = 8 := by
  have := w.l8
  rw [← hl, List.length_map] at this
  exact this
theorem fr_lens (hl : rs.map (·.l) = st.lists) (w : FWf st) : st.common.length + lensL rs = st.freeN := by
  rw [lensL_eq, hl]; rfl
theorem FWf.bounds (w : FWf st) : 0 ≤ st.first ∧ st.first ≤ 4096 ∧ st.counts.length ≤ 4096 := by
  have := w.fit; have := w.b1; have := w.f0; have := w.n1
  omega
theorem fr_r (hl : rs.map (·.l) = st.lists) (w : FWf st) (hk : k < 8) : ∃ r, rs[k]? = some r ∧ r.l = st.listOf k := by
  have h8 := fr8 hl w
  refine ⟨rs[k], List.getElem?_eq_getElem (by omega), ?_⟩
  unfold FSt.listOf
  rw [← hl, List.getElem?_map, List.getElem?_eq_getElem (by omega)]
  rfl
theorem alloc_pop {CC : LV} (Sp : Sep S g h (FrT x m a st.first st.harts CV st.counts CC st.common st.bs rs ++ [])) (hl : rs.map (·.l) = st.lists) (w : FWf st) (hk : k < st.harts) (hne : st.listOf k ≠ []) :
    J22_2 (.ptr x 0) (i k) h fun v h => v = .tuple [i ((st.listOf k).getLastD 0), i 0] ∧ After (FD x m) S g h (popS st k) := by
  have hh := w.h8
  obtain ⟨r, hr, er⟩ := fr_r hl w (k := k) (by omega)
  have hp := List.length_pos_iff.2 hne
  obtain ⟨wp, hin, _, _⟩ := pop_wf w (k := k) hk hne
  obtain ⟨i1, i2, _⟩ := ix_of hin
  have hle := w.listLe (k := k) (l := st.listOf k) (getD_some (by rw [w.l8]; omega))
  have bd := w.bounds
  rw [← er] at i1 i2 hp hle
  have e : popS st k = { st with lists := st.lists.set k r.l.dropLast, counts := st.counts.set (st.ix (r.l.getLastD 0)) 1 } := by unfold popS; rw [er]
  rw [e] at wp ⊢
  rw [← er]
  refine pop_ok Sp (fr8 hl w) hr (w := r.l.length - 1) (by omega) hle (j := st.ix (r.l.getLastD 0)) (by omega) i1 bd.1 bd.2.1 bd.2.2 fun h' rs'' S' hl' => ⟨rfl, ?_⟩
  rw [hl] at hl'
  exact fr_shut (a := a) (CV := CV) (CC := CC) (rs := rs'') S' hl' wp
theorem Alloc_ok (B : (FBox x m S st).ok g) (lt : ∀ b, S b → b < g.next) (k : Int) : Ok Try.prog 22 [.ptr x 0, i k] g fun v h => v = .tuple [i (allocS st k).2.1, i (allocS st k).2.2] ∧ After (FD x m) S g h (allocS st k).1 := by
  obtain ⟨a, CV, CC, rs, Sp, hl, w⟩ := fr_open B lt
  have h8 := fr8 hl w
  have hh := w.h8
  have hlen := fr_lens hl w
  have hfl := w.freeLe
  have c := fr_fc Sp h8
  refine ok22 fun _ _ => ?_
  simp (disch := omega) only [F22, J22_0]
  refine (made_ok c).mono ?_
  rintro _ h ⟨rfl, rfl⟩
  simp (disch := omega) only [i, sh, sh2]
  refine (isH_ok c k).mono ?_
  rintro _ h ⟨rfl, rfl⟩
  by_cases hk : st.isH k
  · have ed : decide (0 ≤ k ∧ k < (st.harts : Int)) = true := decide_eq_true hk
    simp (disch := omega) only [i, sh, sh2, ed]
    refine (free_ok Sp h8 (by omega)).mono ?_
    rintro _ h ⟨rfl, rfl⟩
    rw [hlen]
    by_cases hf : st.freeN = 0
    · rw [hf]
      simp (disch := omega) only [i, sh, sh2, shi, dec]
      unfold allocS
      rw [if_pos hk, if_pos hf]
      exact ⟨rfl, fr_shut Sp hl w⟩
    · simp (disch := omega) only [i, sh, sh2, shi, dec]
      have ea : allocS st k = (popS (readyS st k.toNat) k.toNat, ((readyS st k.toNat).listOf k.toNat).getLastD 0, 0) := by unfold allocS; rw [if_pos hk, if_neg hf]
      rw [ea]
      unfold FSt.isH at hk
      obtain ⟨k, rfl⟩ : ∃ n : Nat, k = n := ⟨k.toNat, by omega⟩
      rw [Int.toNat_natCast]
      obtain ⟨w2, hne⟩ := ready_wf w (k := k) (by omega) hf
      obtain ⟨r, hr, er⟩ := fr_r hl w (k := k) (by omega)
      have hix := ix8 (x := x) (k := k) (by omega)
      have hld := FC.list (Ls := rs.map (·.V)) (k := k) (V := r.V) (fr_x Sp) (by rw [List.getElem?_map, hr]; rfl)
      have hln := (fr_row Sp hr).len (P := Try.prog) ty50
      by_cases he : st.listOf k = []
      · have e0 : (r.l.length : Int) = 0 := by rw [er, he]; rfl
        have er1 : readyS st k = fillS st k := by unfold readyS; rw [if_pos he]
        rw [er1] at w2 hne ⊢
        simp (disch := omega) only [J22_1, i, sh, sh2, shi, dec, hix, hld, b_len, hln, e0]
        refine (fill_ok Sp h8 w.h8 (by omega) hr (er.trans he) (by omega) fun hc => ?_).mono ?_
        · rw [hl]; exact rich_ne w hf hc
        · rintro _ h1 ⟨CC', rs', S1, hl1⟩
          rw [hl] at S1 hl1
          exact alloc_pop (st := fillS st k) S1 hl1 w2 (by show k < st.harts; omega) hne
      · have e0 : (r.l.length : Int) ≠ 0 := by rw [er]; have := List.length_pos_iff.2 he; omega
        have er1 : readyS st k = st := by unfold readyS; rw [if_neg he]
        rw [er1] at w2 hne ⊢
        simp (disch := omega) only [J22_1, i, sh, sh2, shi, dec, hix, hld, b_len, hln]
        exact alloc_pop Sp hl w2 (by omega) hne
  · have ed : decide (0 ≤ k ∧ k < (st.harts : Int)) = false := decide_eq_false hk
    simp (disch := omega) only [i, sh, sh2, ed]
    unfold allocS
    rw [if_neg hk]
    exact ⟨rfl, fr_shut Sp hl w⟩
end
end Go.Proofs.Ytoajcekgoalhjaa
