/-
  parapetref07: Fill, Flush.
-/
import Derived.Test.YtgncgokjbakdmaaTp2
set_option linter.all false
namespace Go.Proofs.Ytgncgokjbakdmaa
open Go.ChangeShapes Go.WideShapes Go.ChangeAt Go.RowKit Go.Lm
set_option linter.unusedSimpArgs false
set_option maxRecDepth 10000
theorem set_same {A : Type} {l : List A} {j : Nat} {a : A} (h : l[j]? = some a) : l.set j a = l := by
  refine List.ext_getElem? fun m => ?_
  by_cases hm : j = m
  · subst hm; rw [List.getElem?_set_self (List.getElem?_eq_some_iff.1 h).1, h]
  · rw [List.getElem?_set_ne hm]
section
variable {F : Nat → Prop} {g h h' : LHeap} {x k : Nat} {size : Int} {HV AV : LV} {hs : List RH} {ss : List SX} {Zs : List Thing} {st : RSt} {S : Nat → Prop}
theorem RFill_ok (B : (RBox x S st).ok g) (lt : ∀ a, S a → a < g.next) (a : Int) (q : AKey) (e : Int) : Ok Try.prog 54 [.ptr x 0, i a, .agg (keyE.f q), u32V e] g fun v h => v = i (if st.inR a then 0 else 1) ∧ After (RD x) S g h (rfill st a q e) := by
  refine ok54 fun wf _ => ?_
  obtain ⟨Ts, ⟨HV, AV, hs, ss, rfl, hh, hal, hid, w⟩, Sp⟩ := box_open B lt
  have S1 := Sp.new (keyE.f q)
  have hln : hs.length = st.harts.length := by rw [← hh, List.length_map]
  simp (disch := omega) only [F54, J54_0, new_key]
  refine (rhart_ok S1 a).mono ?_
  rintro _ h1 ⟨rfl, rfl⟩
  by_cases hr : 0 ≤ a ∧ a < hs.length
  rotate_left
  · rw [decide_eq_false hr]
    have hn : ¬ st.inR a := fun h => hr (by rw [hln]; exact h)
    simp (disch := omega) only [sh, sh2]
    unfold rfill
    rw [if_neg hn, if_neg hn]
    exact ⟨rfl, S1.init.after ⟨HV, AV, hs, ss, rfl, hh, hal, hid, w⟩⟩
  rw [decide_eq_true hr]
  obtain ⟨k, p, rfl, hk, hst, hstk⟩ := rhart_in (st := st) hh hr
  have hin : st.inR (k : Int) := by unfold RSt.inR; omega
  unfold rfill
  rw [if_pos hin, if_pos hin, hst, Int.toNat_natCast]
  have x0 := S1.cell (a := x) (vs := [i st.size, HV, AV]) 0 rfl
  obtain ⟨e1, e2⟩ := rh_at hk S1
  have R := S1.row (V := p.1) (E := ktE) (l := p.2) _ (rt_h hk)
  have hl := R.len (P := Try.prog) ty115
  have hw := w.nd p.2 (List.mem_of_getElem? hstk)
  have hs1 := w.s1
  have hs64 := w.s2
  have hq := S1.cell (a := g.next) (vs := keyE.f q) (RTs x st.size HV AV hs ss).length (by simp)
  have hkl := (List.getElem?_eq_some_iff.1 hk).1
  -- what a new list is worth
  have fin : ∀ {h2 : LHeap} {V : LV} {l : List KEnt}, Sep S g h2 (RTs x st.size HV AV (hs.set k (V, l)) ss) → l = fillK st.size p.2 q e → After (RD x) S g h2 { st with harts := st.harts.set k (fillK st.size p.2 q e) } := by
    intro h2 V l S2 hl2
    subst hl2
    have := fillK_wf (size := st.size) hw.1 hw.2 hs1 q e
    exact S2.after ⟨HV, AV, _, ss, rfl, by rw [List.map_set, hh], hal, hid, w.setH this.1 this.2⟩
  simp only [i] at x0 e1
  generalize g.alloc (.cells (keyE.f q) .ex) = g1 at S1 x0 e2 R hq
  simp (disch := omega) only [sh, sh2, J54_1, J54_4]
  refine loop_n (fun n s h => ∃ j : Nat, s = i (j : Int) ∧ j + n = p.2.length ∧ h = g1 ∧ q ∉ (p.2.take j).map (·.1)) (n := p.2.length) ⟨0, rfl, by omega, rfl, by simp⟩ ?_
  rintro n s h ⟨j, rfl, hj, rfl, hnq⟩
  cases n with
  | zero =>
    rw [List.take_of_length_le (by omega)] at hnq
    by_cases hfull : st.size ≤ p.2.length
    · simp (disch := omega) only [L54_5, J54_2, i, sh, sh2, shi, dec, x0, e1, e2, b_len, hl]
      obtain ⟨U, eU, RU, cU, oU, _⟩ := R.cut (S1.grow (V := p.1) (E := ktE) (l := p.2) _ (rt_h hk)).capd (i := 1) (j := p.2.length) (by omega) (Nat.le_refl _) (some 1) none rfl rfl
      have hke : ktE.e = 3 := rfl
      rw [hke] at eU
      have ltU : ∀ b, U.obj = some b → b < h.next := fun b hb => S1.lt (T := Thing.vec ktE p.1 p.2) _ (rt_h hk) (oU b hb)
      obtain ⟨V', h2, ea, S2, cV', f2, _⟩ := S1.clone' RU ltU (bytes := 24) (by simp; omega)
      rw [hke] at ea
      have hap := ap115 (V := .slice h.next 0 0 (.ex 0)) (U := U) RU.not_str (h.alloc (.cells [] .ex))
      rw [ea] at hap
      have S1t := S1.temp (.cells [] .ex)
      have x1 := S1t.cell (a := x) (vs := [i st.size, HV, AV]) 0 rfl
      obtain ⟨_, e4⟩ := rh_at hk S1t
      have x2 := S2.cell (a := x) (vs := [i st.size, HV, AV]) 0 rfl
      obtain ⟨H, est, S3, _⟩ := rset_h (Zs := [Thing.cells g.next (keyE.f q)]) hk cV' S2
      simp only [i] at x1 x2
      simp (disch := omega) only [cut_t (P := Try.prog) ty115 sz117 (by decide), eU, sh, sh2, bs115_0, x1, e4, hap, x2, est, true_and, and_true]
      have hk' : (hs.set k (V', (p.2.drop 1).take (p.2.length - 1)))[k]? = some (V', (p.2.drop 1).take (p.2.length - 1)) := by rw [List.getElem?_set_self hkl]
      refine rpush_ok e hk' (by simp; omega) S3 fun h' V S4 => ⟨rfl, ?_⟩
      rw [List.set_set] at S4
      refine fin S4 ?_
      rw [fillK, if_neg hnq, if_pos hfull, List.take_of_length_le (by simp)]
    · simp (disch := omega) only [L54_5, J54_2, i, sh, sh2, shi, dec, x0, e1, e2, b_len, hl]
      refine rpush_ok e hk (by omega) S1 fun h' V S2 => ⟨rfl, fin S2 ?_⟩
      rw [fillK, if_neg hnq, if_neg hfull]
  | succ n =>
    obtain ⟨y, hy, hd⟩ := drop_at (l := p.2) (k := j) (by omega)
    obtain ⟨f1, pa, po, f2, f3, f4, f5⟩ := kt_at R hy
    have heq := key_eq y.1 q
    by_cases hyq : y.1 = q
    · rw [if_pos hyq] at heq
      have ih : (RTs x st.size HV AV hs ss ++ [Thing.cells g.next (keyE.f q)])[3 + k]? = some (Thing.vec ktE p.1 p.2) := rt_h hk
      obtain ⟨a', off, H, g1', g2', S4, n4, _⟩ := S1.stf (V := p.1) (E := ktE) (l := p.2) (3 + k) ih (k := j) (j := 2) (q, e) (v := u32V e) rfl hy (by decide) (by
        obtain ⟨⟨y1, y2⟩, y3⟩ := y
        simp only at hyq
        subst hyq
        rfl)
      have hke : ktE.e = 3 := rfl
      rw [hke, f2] at g1'
      cases g1'
      simp (disch := omega) only [L54_5, i, sh, sh2, shi, dec, x0, e1, e2, b_len, hl, f1, f2, f3, hq, key_o, heq, g2']
      have e0 : (RTs x st.size HV AV hs ss ++ [Thing.cells g.next (keyE.f q)]).set (3 + k) (Thing.vec ktE p.1 (p.2.set j (q, e))) = (RTs x st.size HV AV hs ss).set (3 + k) (hT (p.1, p.2.set j (q, e))) ++ [Thing.cells g.next (keyE.f q)] := by
        rw [List.set_append_left _ _ (by simp [RTs]; omega)]; rfl
      rw [e0] at S4
      have S5 := S4.init
      have hsame : (hs.map (·.1)).set k p.1 = hs.map (·.1) := set_same (by rw [List.getElem?_map, hk]; rfl)
      have e7 := rt_set_h (x := x) (size := st.size) (HV := HV) (AV := AV) (ss := ss) hk (p.1, p.2.set j (q, e))
      simp only at e7
      rw [hsame, set_same (by rw [List.getElem?_set_ne (by omega)]; rfl)] at e7
      have e8 := e7
      rw [e8] at S5
      refine ⟨trivial, fin S5 ?_⟩
      rw [fillK, if_pos (by rw [← hyq]; exact List.mem_map.2 ⟨y, List.mem_of_getElem? hy, rfl⟩)]
      exact set_setK e hw.1 hy hyq
    · rw [if_neg hyq] at heq
      simp (disch := omega) only [L54_5, i, sh, sh2, shi, dec, x0, e1, e2, b_len, hl, f1, f2, f3, hq, key_o, heq]
      refine ⟨n, by omega, j + 1, by simp, by omega, trivial, ?_⟩
      rw [take_snoc hy, List.map_append, List.mem_append]
      rintro (h | h)
      · exact hnq h
      · simp only [List.map_cons, List.map_nil, List.mem_singleton] at h
        exact hyq h.symm
end
end Go.Proofs.Ytgncgokjbakdmaa
