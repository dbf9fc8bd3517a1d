/-
  waitq: whoever comes first is woken first: the law.
-/
import Derived.Test.YtgncgokjbakdmaaWa9
set_option linter.all false
namespace Go.Proofs.Ytgncgokjbakdmaa
open Go.ChangeShapes Go.WideShapes Go.ChangeAt Go.RowKit Go.Lm
set_option linter.unusedSimpArgs false
variable {g g' : LHeap} {q n : Nat} {col : Nat → Option Tag} {on : Int → Option (List Chan)} {sl : Chan → List Int}
set_option maxRecDepth 4000 in
theorem fair_any {TV WV : LV} {ts ws : List Int} {c1 c2 c3 : Int} (RT : Row g TV intE ts) (RW : Row g WV intE ws) (hT : ts.length < 9223372036854775808) (hW : ws.length < 9223372036854775808) : Ok Try.prog 3 [.agg [i c1, i c2, i c3], TV, WV] g fun v _ => v = .bool true := by
  refine ok3 fun wf lt => ?_
  have f1 : Fr noF g (g.alloc (.cells [i c1, i c2, i c3] .ex)) := Fr.alloc _ _
  have hlT := RT.len ty24
  have hlW := RW.len ty24
  have hn : newL (.agg [i c1, i c2, i c3]) g = some (.ptr g.next 0, g.alloc (.cells [i c1, i c2, i c3] .ex)) := new_agg _ _ (chanE.cell (c1, c2, c3))
  simp (disch := omega) only [F3, J3_0, sh, hn]
  refine new_ok.mono ?_
  rintro _ h0 ⟨q, col, rfl, D, f2, hcol⟩
  simp (disch := omega) only [J3_1]
  refine awake_pure.to ?_
  simp (disch := omega) only [J3_2, J3_3, J3_10, sh, sh2, shs, shc, shi, dec, b_len, hlT, nil_p ty25]
  have f3 := f1.trans f2
  have nc : ∀ a, a < g.next → col a = none := fun a ha => hcol a (Nat.lt_of_lt_of_le ha f1.le)
  refine loop_n (fun n' s h => ∃ (k : Nat) (V : LV) (want : List Int) (col' : Nat → Option Tag) (on' : Int → Option (List Chan)) (sl' : Chan → List Int) (n1 : Nat), s = (V, i (k : Int)) ∧ k + n' = ts.length ∧ WQ h q col' on' sl' n1 ∧ sl' (c1, c2, c3) = want ∧ Vec intE h0.next h V want ∧ FrQ h0 col h col' ∧ ∀ a, V.obj = some a → col' a = none) (n := ts.length)
    ⟨0, .nils, [], col, _, _, _, rfl, by omega, D, rfl, Vec.nils _ _, FrQ.of (Fr.refl _ _), fun a ha => by cases ha⟩ ?_
  rintro n' s h ⟨k, V, want, col', on', sl', n1, rfl, hk, D', hw, OV, fq, hV⟩
  have n0 : g.next + 1 ≤ h0.next := by have := f2.le; rwa [LHeap.next_alloc] at this
  have p3 : h.get g.next = some (.cells [i c1, i c2, i c3] .ex) := (fq.eq _ (by omega) (hcol _ (by rw [LHeap.next_alloc]; omega))).1.trans ((f2.eq _ (by rw [LHeap.next_alloc]; omega) id).trans (get_alloc_eq _ _))
  have old : ∀ a, a < g.next → h.get a = g.get a := fun a ha => (fq.eq a (by omega) (nc a ha)).1.trans (f3.eq a ha id)
  have RT' : Row h TV intE ts := by
    rcases RT with h | ⟨a, off, cap, vs, own, rfl, hg, hv, hl⟩
    · exact .inl h
    · exact .inr ⟨a, off, cap, vs, own, rfl, (old a (wf.lt a _ hg)).trans hg, hv, hl⟩
  cases n' with
  | zero =>
    have hwl : want.length ≤ 64 := by rw [← hw]; exact D'.few _
    have hlw := OV.row.len ty24
    simp (disch := omega) only [L3_11, J3_4, J3_5, J3_6, J3_8, i, sh, sh2, shs, shc, shi, dec, b_len, hlw, hlW]
    refine loop_n (fun n' s h5 => ∃ (k : Nat) (U : LV) (got : List Int) (col2 : Nat → Option Tag) (on2 : Int → Option (List Chan)) (sl2 : Chan → List Int) (n2 : Nat), s = (U, i (k : Int)) ∧ k + n' = ws.length ∧ WQ h5 q col2 on2 sl2 n2 ∧ got ++ sl2 (c1, c2, c3) = want ∧ Vec intE h.next h5 U got ∧ FrQ h col' h5 col2 ∧ ∀ a, U.obj = some a → col2 a = none) (n := ws.length)
      ⟨0, .nils, [], col', on', sl', n1, rfl, by omega, D', hw, Vec.nils _ _, FrQ.of (Fr.refl _ _), fun a ha => by cases ha⟩ ?_
    rintro n' s h5 ⟨k2, U, got, col2, on2, sl2, n2, rfl, hk2, D5, hgw, OU, fq5, hU⟩
    have RW5 : Row h5 WV intE ws := by
      rcases RW with h | ⟨a, off, cap, vs, own, rfl, hg, hv, hl⟩
      · exact .inl h
      · have ha := wf.lt a _ hg
        have h1 := fq.eq a (by omega) (nc a ha)
        exact .inr ⟨a, off, cap, vs, own, rfl, (fq5.eq a (by have := fq.le; omega) h1.2).1.trans ((old a ha).trans hg), hv, hl⟩
    have p5 : h5.get g.next = some (.cells [i c1, i c2, i c3] .ex) := (fq5.eq _ (by have := fq.le; omega) (fq.eq _ (by omega) (hcol _ (by rw [LHeap.next_alloc]; omega))).2).1.trans p3
    have hsub : got.length + (sl2 (c1, c2, c3)).length ≤ 64 := by rw [← List.length_append, hgw]; exact hwl
    cases n' with
    | zero =>
      have hlU := OU.row.len ty24
      have hgl : want.length = got.length + (sl2 (c1, c2, c3)).length := by rw [← hgw, List.length_append]
      have kW : ∀ a, V.obj = some a → h5.get a = h.get a := fun a ha => (fq5.eq a (OV.lo a ha).2 (hV a ha)).1
      have OV5 : Row h5 V intE want := OV.row.fr kW
      have GV5 : Grow h5 V 1 := OV.grow.fr kW
      obtain ⟨X1, eX1, RX1, _⟩ := OV5.cut GV5.capd (i := 0) (j := got.length) (by omega) (by omega) none (some (got.length : Int)) rfl rfl
      obtain ⟨X2, eX2, RX2, _, oX2, _⟩ := OV5.cut GV5.capd (i := got.length) (j := want.length) (by omega) (by omega) (some (got.length : Int)) none rfl rfl
      have e1 : intE.e = 1 := rfl
      rw [e1] at eX1 eX2
      have sz3 : sizeL Try.prog 3 = some 1 := by kernel_rfl
      simp (disch := omega) only [L3_9, J3_7, i, sh, sh2, shs, shc, shi, dec, hlU, hlw, cut_t ty24 sz3 Nat.one_ne_zero, eX1, eX2, p5, chan_o]
      have hX1 : (want.drop 0).take (got.length - 0) = got := by rw [List.drop_zero, Nat.sub_zero, ← hgw, List.take_left]
      have hX2 : (want.drop got.length).take (want.length - got.length) = sl2 (c1, c2, c3) := by
        rw [← hgw, List.drop_left, List.take_of_length_le]
        rw [List.length_append]; omega
      rw [hX1] at RX1
      rw [hX2] at RX2
      refine (same16_ok OU.row RX1 (by omega)).mono ?_
      rintro _ _ ⟨⟨b, rfl, hb⟩, rfl⟩
      obtain rfl := hb.2 rfl
      simp (disch := omega) only [i, sh, sh2, shs, shc, shi, dec, hlU, cut_t ty24 sz3 Nat.one_ne_zero, eX2, p5, chan_o]
      refine (sleepers_ok D5 (c1, c2, c3)).mono ?_
      rintro S h8 ⟨OS, _, f8⟩
      refine (same16_ok OS.row (RX2.fr fun a ha => f8.eq a (by have := (OV.lo a (oX2 a ha)).2; have := fq5.le; omega) id) (by omega)).mono ?_
      rintro _ _ ⟨⟨b, rfl, hb⟩, rfl⟩
      obtain rfl := hb.2 rfl
      simp (disch := omega) only [i, sh, sh2, shs, shc, shi, dec]
    | succ n' =>
      obtain ⟨w, hw', hd⟩ := drop_at (l := ws) (k := k2) (by omega)
      have hix := RW5.ix (k := .i64) (i := k2) (by omega)
      have hld := RW5.ld1 hw' rfl rfl
      have e1 : intE.e = 1 := rfl
      rw [e1] at hix
      simp (disch := omega) only [L3_9, i, sh, sh2, shs, shc, shi, dec, hix, hld, p5, chan_o]
      refine call_w (wake_ok D5 (c1, c2, c3) w) ?_
      rintro T h6 ⟨OT, col6, D6, fq6, hT⟩ le6 wf6 _
      have kU : ∀ a, U.obj = some a → h6.get a = h5.get a ∧ col6 a = none := fun a ha => fq6.eq a (OU.lo a ha).2 (hU a ha)
      have OU6 : Vec intE h.next h6 U got := ⟨OU.row.fr fun a ha => (kU a ha).1, OU.grow.fr fun a ha => (kU a ha).1, fun a ha => ⟨(OU.lo a ha).1, Nat.lt_of_lt_of_le (OU.lo a ha).2 le6⟩⟩
      have htk : ((sl2 (c1, c2, c3)).take w.toNat).length ≤ (sl2 (c1, c2, c3)).length := by rw [List.length_take]; omega
      obtain ⟨U', h7, e, O7, f7, n7, _⟩ := OU6.app' (bytes := 8) OT.row (by omega) (by have := fq5.le; omega)
      have e : appendL 1 8 U T h6 = some (U', h7) := e
      have ap := ap24 (V := U) (U := T) OT.row.not_str h6
      simp (disch := omega) only [i, sh, sh2, shs, shc, shi, dec, ap, e]
      refine ⟨n', by omega, k2 + 1, U', _, col6, _, _, _, rfl, by omega, D6.up f7 fun a ha => (kU a ha).2, ?_, O7, ?_, ?_⟩
      · show got ++ _ ++ (sl2 (c1, c2, c3)).filter _ = want
        rw [left_of (D5.nod _), List.append_assoc, List.take_append_drop, hgw]
      · have fq7 := fq5.trans fq6
        exact ⟨Nat.le_trans fq7.le f7.le, fun a ha hc => ⟨(f7.eq a (Nat.lt_of_lt_of_le ha fq7.le) fun hv => by have := (OU.lo a hv).1; omega).trans (fq7.eq a ha hc).1, (fq7.eq a ha hc).2⟩⟩
      · intro a ha
        rcases n7 a ha with h | h
        · exact (kU a h).2
        · refine Classical.byContradiction fun hc => ?_
          have := D6.lt a hc
          omega
  | succ n' =>
    obtain ⟨t, ht, hd⟩ := drop_at (l := ts) (k := k) (by omega)
    have hix := RT'.ix (k := .i64) (i := k) (by omega)
    have hld := RT'.ld1 ht rfl rfl
    have e1 : intE.e = 1 := rfl
    rw [e1] at hix
    have bs := bs30_1 h c1 c2 c3
    have D2 := D'.up (Fr.alloc h (.cells [i c1, i c2, i c3] .ex)) fun _ h => h.elim
    simp (disch := omega) only [L3_11, i, sh, sh2, shs, shc, shi, dec, hix, hld, p3, chan_o, bs]
    have hrow : Row (h.alloc (.cells [i c1, i c2, i c3] .ex)) (.slice h.next 0 1 (.ex 1)) chanE [(c1, c2, c3)] := Row.of (get_alloc_eq _ _) rfl rfl (Nat.le_refl 3)
    refine call_w (sleep_ok D2 t hrow (Nat.le_refl 1) (show 1 < 9223372036854775808 by decide) fun a ha => ?_) ?_
    · cases ha
      refine Classical.byContradiction fun hc => ?_
      have := D'.lt _ hc
      omega
    rintro _ h2 ⟨rfl, col2, fq2, hD⟩ le2 wf2 _
    have fq1 : FrQ h0 col h2 col2 := (fq.trans (FrQ.of (Fr.alloc h _))).trans fq2
    have le3 : h.next ≤ h2.next := by rw [LHeap.next_alloc] at le2; omega
    have fqh : FrQ h col' h2 col2 := (FrQ.of (Fr.alloc h _)).trans fq2
    have kV : ∀ a, V.obj = some a → h2.get a = h.get a ∧ col2 a = none := fun a ha => fqh.eq a (OV.lo a ha).2 (hV a ha)
    have OV2 : Vec intE h0.next h2 V want := ⟨OV.row.fr fun a ha => (kV a ha).1, OV.grow.fr fun a ha => (kV a ha).1, fun a ha => ⟨(OV.lo a ha).1, Nat.lt_of_lt_of_le (OV.lo a ha).2 le3⟩⟩
    by_cases e0 : sleepN on' n1 t [(c1, c2, c3)] = 0
    · rw [if_pos e0] at hD
      have hw2 : (fun c => if c ∈ [(c1, c2, c3)] then sl' c ++ [t] else sl' c) (c1, c2, c3) = want ++ [t] := by
        show (if _ then _ else _) = _
        rw [if_pos (by simp), hw]
      have hfew : (want ++ [t]).length ≤ 64 := by rw [← hw2]; exact hD.few (c1, c2, c3)
      rw [List.length_append, List.length_singleton] at hfew
      obtain ⟨V', h4, e, O4, f4, n4, _⟩ := (OV2.up (Fr.alloc h2 (.cells [i t] .ex)) fun _ _ => id).app' (bytes := 8) (U := .slice h2.next 0 1 (.ex 1)) (m := [t]) (Row.of (get_alloc_eq _ _) rfl rfl (Nat.le_refl 1)) (by simp only [List.length_singleton]; omega) (by have := fq1.le; rw [LHeap.next_alloc]; omega)
      have e : appendL 1 8 V (.slice h2.next 0 1 (.ex 1)) (h2.alloc (.cells [i t] .ex)) = some (V', h4) := e
      have bs2 := bs24_1 h2 t
      have ap := ap24 (V := V) (U := .slice h2.next 0 1 (.ex 1)) rfl (h2.alloc (.cells [i t] .ex))
      have ff : Fr (fun a => V.obj = some a) h2 h4 := ((Fr.alloc h2 _).mono fun _ _ h => h.elim).trans f4
      simp (disch := omega) only [e0, i, sh, sh2, shs, shc, shi, dec, bs2, ap, e]
      refine ⟨n', by omega, k + 1, V', want ++ [t], col2, _, _, _, rfl, by omega, hD.up ff fun a ha => (kV a ha).2, hw2, O4, ?_, ?_⟩
      · exact ⟨Nat.le_trans fq1.le ff.le, fun a ha hc => ⟨(ff.eq a (Nat.lt_of_lt_of_le ha fq1.le) fun hv => by have := (OV.lo a hv).1; omega).trans (fq1.eq a ha hc).1, (fq1.eq a ha hc).2⟩⟩
      · intro a ha
        rcases n4 a ha with h | h
        · exact (kV a h).2
        · refine Classical.byContradiction fun hc => ?_
          have := hD.lt a hc
          rw [LHeap.next_alloc] at h
          omega
    · rw [if_neg e0] at hD
      simp (disch := omega) only [i, sh, sh2, shs, shc, shi, dec]
      exact ⟨n', by omega, k + 1, V, want, col2, on', sl', n1, rfl, by omega, hD, hw, OV2, fq1, fun a ha => (kV a ha).2⟩
end Go.Proofs.Ytgncgokjbakdmaa
