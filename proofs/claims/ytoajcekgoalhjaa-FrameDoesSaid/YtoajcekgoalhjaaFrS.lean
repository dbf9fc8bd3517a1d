/-
  frame, the reference: Alloc, Decr.
-/
import Derived.Test.YtoajcekgoalhjaaFrO
set_option linter.all false
namespace Go.Proofs.Ytoajcekgoalhjaa
open Go.ChangeShapes Go.WideShapes Go.ChangeAt Go.RowKit Go.Lm
set_option linter.unusedSimpArgs false
set_option linter.unusedVariables false
set_option maxRecDepth 10000
theorem rich_take (ls : List (List Int)) (n : Nat) : ∀ j, j ≤ n → 1 ≤ n → rich (ls.take n) j = rich ls j
  | 0, _, _ => rfl
  | j + 1, h, h1 => by
    have ih := rich_take ls n j (by omega) h1
    have hr := rich_le ls j
    simp only [rich, ih]
    rw [List.getElem?_take_of_lt (show j < n by omega), List.getElem?_take_of_lt (show rich ls j < n by omega)]
theorem fill_take (ls : List (List Int)) {n k : Nat} (h1 : 1 ≤ n) (common : List Int) : (fillL (ls.take n) n k common).1 = (fillL ls n k common).1.take n ∧ (fillL (ls.take n) n k common).2 = (fillL ls n k common).2 := by
  have hr := rich_take ls n n (Nat.le_refl _) h1
  have hlt := rich_lt ls h1
  unfold fillL
  by_cases hc : common = []
  · rw [if_pos hc, if_pos hc]
    simp only [hr, List.take_set]
    rw [List.getElem?_take_of_lt hlt]
    exact ⟨rfl, trivial⟩
  · rw [if_neg hc, if_neg hc]
    exact ⟨List.take_set.symm, rfl⟩
section
variable {F : Nat → Prop} {g h h' : LHeap} {x m a k c : Nat} {cs Vs : List LV} {CV CC SV W : LV} {counts common bs bs' : List Int} {rs : List FX} {r : FX} {Zs Ts : List Thing} {st : FSt} {S : Nat → Prop} {first : Int} {harts : Nat} {V U : LV} {l l2 : List Int}
theorem rd_len (hl : rs.map (·.l) = st.lists.take st.harts) (w : FWf st) : rs.length = st.harts := by
  have := congrArg List.length hl
  rw [List.length_map, List.length_take, w.l8] at this
  have := w.h8
  omega
theorem rd_r (hl : rs.map (·.l) = st.lists.take st.harts) (w : FWf st) (hk : k < st.harts) : ∃ r, rs[k]? = some r ∧ r.l = st.listOf k ∧ r.l.length ≤ 4096 := by
  have h8 := rd_len hl w
  have hh := w.h8
  have e : rs[k]?.map (·.l) = st.lists[k]? := by
    rw [← List.getElem?_map, hl, List.getElem?_take_of_lt hk]
  have hs := List.getElem?_eq_getElem (l := rs) (i := k) (by omega)
  have hl8 := getD_some (ls := st.lists) (k := k) (by rw [w.l8]; omega)
  have e2 : rs[k].l = st.listOf k := by
    rw [hs, hl8] at e
    exact Option.some.inj e
  refine ⟨rs[k], hs, e2, ?_⟩
  rw [e2]; exact w.listLe hl8
/-- The last of a list is taken. -/
theorem rpop_ok (Sp : Sep S g h (RT x st.first CV st.counts SV CC st.common rs ++ [])) (hl : rs.map (·.l) = st.lists.take st.harts ∧ Capds rs) (w : FWf st) (hk : k < st.harts) (hne : st.listOf k ≠ []) :
    J67_2 (.ptr x 0) (i k) h fun v h => v = .tuple [i ((st.listOf k).getLastD 0), i 0] ∧ After (RD x) S g h (popS st k) := by
  obtain ⟨r, hr, er, hle⟩ := rd_r hl.1 w hk
  have hp := List.length_pos_iff.2 hne
  obtain ⟨wp, hin, _, _⟩ := pop_wf w (k := k) hk hne
  obtain ⟨i1, i2, _⟩ := ix_of hin
  have bd := w.bounds
  rw [← er] at i1 i2 hp
  have e : popS st k = { st with lists := st.lists.set k r.l.dropLast, counts := st.counts.set (st.ix (r.l.getLastD 0)) 1 } := by unfold popS; rw [er]
  rw [e] at wp ⊢
  rw [← er]
  obtain ⟨q, hq⟩ : ∃ q : Nat, r.l.length = q + 1 := ⟨r.l.length - 1, by omega⟩
  have x0 := rg_x Sp
  obtain ⟨b1, o1, ix1, ld1⟩ := rg_ld Sp hr
  have hln := (rg_row Sp hr).len (P := Try.prog) ty50
  obtain ⟨b2, o2, ix2, ld2⟩ := at_ix (rg_row Sp hr) (j := q) (by omega) _ (last_at hq)
  have hlt : ∀ b, r.V.obj = some b → b < h.next := fun b hb => Sp.lt (T := Thing.row intE r.V r.l) _ (rg_at hr) hb
  obtain ⟨U1, W1, h1, cut1, app1, S1, f1⟩ := part_hi Sp (rg_row Sp hr) (hl.2 _ _ hr) hlt (by omega) (j := q) (by omega)
  have C1 := last_capd S1
  have xa := rg_x (Sp.temp (.cells [] .ex))
  have x1 := rg_x S1.init
  obtain ⟨b4, o4, h2, ix4, st4, S2⟩ := rg_swap (vec_row S1) hr
  rw [ix1] at ix4
  cases ix4
  have S2 := S2.init
  have x2 := rg_x S2
  obtain ⟨b5, o5, h5, ix5, _, st5, S5⟩ := rg_stn S2 i1 1
  have hbs := bs50_0
  have ew : (r.l.length : Int) - 1 = q := by omega
  have e0 : (r.l.length : Int) ≠ 0 := by omega
  have i2 := i2.symm
  simp (disch := omega) only [J67_2, i, sh, sh2, shi, dec, x0, ix1, ld1, b_len, hln, ew, ix2, ld2, cut1, hbs, xa, app1, x1, st4, x2, i2, ix5, st5]
  refine ⟨⟨trivial, ⟨trivial, ⟨⟨⟨trivial, ?_⟩, trivial⟩, trivial⟩⟩, trivial⟩, trivial⟩
  refine rd_shut (rs := rs.set k ⟨W1, r.l.take q⟩) (CV := CV) (SV := SV) (CC := CC) S5 ⟨?_, Capds.set hl.2 C1⟩ wp
  rw [List.map_set, hl.1]
  show (st.lists.take st.harts).set k (r.l.take q) = (st.lists.set k r.l.dropLast).take st.harts
  rw [List.take_set, List.dropLast_eq_take, hq, Nat.add_sub_cancel]
theorem RAlloc_ok (B : (RBox x S st).ok g) (lt : ∀ b, S b → b < g.next) (k : Int) : Ok Try.prog 67 [.ptr x 0, i k] g fun v h => v = .tuple [i (allocS st k).2.1, i (allocS st k).2.2] ∧ After (RD x) S g h (allocS st k).1 := by
  obtain ⟨CV, SV, CC, rs, Sp, hl, w⟩ := rd_open B lt
  have h8 := rd_len hl.1 w
  have hh := w.h8
  have hh1 := w.h1
  have x0 := rg_x Sp
  have hfl := w.freeLe
  have hls : lenL Try.prog 103 SV g = some (.int .i64 (st.harts : Int)) := by rw [(rg_sv Sp).len ty103, List.length_map, h8]
  refine ok67 fun _ _ => ?_
  by_cases hk : st.isH k
  · unfold FSt.isH at hk
    obtain ⟨k, rfl⟩ : ∃ n : Nat, k = n := ⟨k.toNat, by omega⟩
    have hkn : k < st.harts := by omega
    obtain ⟨r, hr, er, hle⟩ := rd_r hl.1 w hkn
    obtain ⟨b1, o1, ix1, ld1⟩ := rg_ld Sp hr
    have hln := (rg_row Sp hr).len (P := Try.prog) ty50
    by_cases hf : st.freeN = 0
    · -- nothing is free: fill finds nothing
      have ea : allocS st k = (st, 0, 2) := by unfold allocS; rw [if_pos ⟨by omega, by omega⟩, if_pos hf]
      rw [ea]
      have hc0 : st.common = [] := by unfold FSt.freeN at hf; exact List.length_eq_zero_iff.1 (by omega)
      have hall : ∀ l ∈ st.lists, l = [] := fun l hl => by
        have := len_flat_le hl
        unfold FSt.freeN at hf
        exact List.length_eq_zero_iff.1 (by omega)
      have e0 : r.l = [] := by rw [er]; exact hall _ (List.mem_of_getElem? (getD_some (by rw [w.l8]; omega)))
      have e00 : (r.l.length : Int) = 0 := by rw [e0]; rfl
      simp (disch := omega) only [F67, J67_0, J67_1, i, sh, sh2, shi, dec, x0, b_len, hls, ix1, ld1, hln, e00]
      refine (Rfill_ok Sp hl.2 h8 hh (by unfold FSt.freeN at hfl; omega) (fun j r hj => ?_) hr e0).mono ?_
      · obtain ⟨r', hr', _, h4⟩ := rd_r hl.1 w (k := j) (by rw [← h8]; exact (List.getElem?_eq_some_iff.1 hj).1)
        rw [hj] at hr'; cases hr'; exact h4
      · rintro _ h1 ⟨CC', rs', S1, C1, hl1⟩
        have hrl : ((rs.map (·.l))[rich (rs.map (·.l)) st.harts]?).getD [] = ([] : List Int) := by
          cases hq : (rs.map (·.l))[rich (rs.map (·.l)) st.harts]? with
          | none => rfl
          | some l =>
            rw [hl.1] at hq
            exact hall l (List.mem_of_mem_take (List.mem_of_getElem? hq))
        have hsame : (fillL (rs.map (·.l)) st.harts k st.common).1 = rs.map (·.l) ∧ (fillL (rs.map (·.l)) st.harts k st.common).2 = [] := by
          unfold fillL
          rw [if_pos hc0]
          simp only [hrl]
          refine ⟨?_, trivial⟩
          have hset : ∀ (ls : List (List Int)) (j : Nat), (∀ l ∈ ls, l = []) → ls.set j [] = ls := fun ls j h => by
            apply List.ext_getElem?
            intro q
            rw [List.getElem?_set]
            split
            · rename_i e
              subst e
              split
              · rename_i hq2
                have := h _ (List.getElem_mem hq2)
                rw [List.getElem?_eq_getElem hq2, this]
              · rw [List.getElem?_eq_none (by omega)]
            · rfl
          have hm : ∀ l ∈ rs.map (·.l), l = [] := fun l hl2 => by
            rw [hl.1] at hl2
            exact hall l (List.mem_of_mem_take hl2)
          simp only [List.take_nil, List.drop_nil]
          rw [hset _ k hm, hset _ _ hm]
        rw [hsame.1] at hl1
        rw [hsame.2] at S1
        obtain ⟨r', hr', er'⟩ : ∃ r', rs'[k]? = some r' ∧ r'.l = [] := by
          have : rs'[k]?.map (·.l) = some [] := by rw [← List.getElem?_map, hl1, List.getElem?_map, hr, ← e0]; rfl
          cases hq : rs'[k]? with
          | none => rw [hq] at this; cases this
          | some r' => rw [hq] at this; exact ⟨r', rfl, Option.some.inj this⟩
        have x1 := rg_x S1
        obtain ⟨b2, o2, ix2, ld2⟩ := rg_ld S1 hr'
        have hln2 := (rg_row S1 hr').len (P := Try.prog) ty50
        have e01 : (r'.l.length : Int) = 0 := by rw [er']; rfl
        simp (disch := omega) only [J67_2, i, sh, sh2, shi, dec, x1, b_len, ix2, ld2, hln2, e01]
        exact ⟨trivial, rd_shut (rs := rs') (CV := CV) (SV := SV) (CC := CC') (by rw [hc0]; exact S1) ⟨hl1.trans hl.1, C1⟩ w⟩
    · have ea : allocS st k = (popS (readyS st k) k, ((readyS st k).listOf k).getLastD 0, 0) := by unfold allocS; rw [if_pos ⟨by omega, by omega⟩, if_neg hf]; rfl
      rw [ea]
      obtain ⟨w2, hne⟩ := ready_wf w (k := k) hkn hf
      by_cases he : st.listOf k = []
      · have e0 : r.l = [] := er.trans he
        have e00 : (r.l.length : Int) = 0 := by rw [e0]; rfl
        have er1 : readyS st k = fillS st k := by unfold readyS; rw [if_pos he]
        rw [er1] at w2 hne ⊢
        simp (disch := omega) only [F67, J67_0, J67_1, i, sh, sh2, shi, dec, x0, b_len, hls, ix1, ld1, hln, e00]
        refine (Rfill_ok Sp hl.2 h8 hh (by unfold FSt.freeN at hfl; omega) (fun j r hj => ?_) hr e0).mono ?_
        · obtain ⟨r', hr', _, h4⟩ := rd_r hl.1 w (k := j) (by rw [← h8]; exact (List.getElem?_eq_some_iff.1 hj).1)
          rw [hj] at hr'; cases hr'; exact h4
        · rintro _ h1 ⟨CC', rs', S1, C1, hl1⟩
          obtain ⟨t1, t2⟩ := fill_take st.lists (n := st.harts) (k := k) hh1 st.common
          rw [hl.1, t1] at hl1
          rw [hl.1, t2] at S1
          exact rpop_ok (st := fillS st k) S1 ⟨hl1, C1⟩ w2 hkn hne
      · have e0 : (r.l.length : Int) ≠ 0 := by rw [er]; have := List.length_pos_iff.2 he; omega
        have er1 : readyS st k = st := by unfold readyS; rw [if_neg he]
        rw [er1] at w2 hne ⊢
        simp (disch := omega) only [F67, J67_0, J67_1, i, sh, sh2, shi, dec, x0, b_len, hls, ix1, ld1, hln]
        exact rpop_ok Sp hl w2 hkn hne
  · have ea : allocS st k = (st, 0, 1) := by unfold allocS; rw [if_neg hk]
    rw [ea]
    unfold FSt.isH at hk
    by_cases h0 : k < 0
    · simp (disch := omega) only [F67, J67_0, i, sh, sh2, shi, dec]
      exact ⟨trivial, rd_shut Sp hl w⟩
    · simp (disch := omega) only [F67, J67_0, i, sh, sh2, shi, dec, x0, b_len, hls]
      exact ⟨trivial, rd_shut Sp hl w⟩
end
end Go.Proofs.Ytoajcekgoalhjaa
