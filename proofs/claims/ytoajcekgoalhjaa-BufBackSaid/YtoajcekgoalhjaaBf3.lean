/-
  disk: Read, Write.
-/
import Derived.Test.YtoajcekgoalhjaaBf2
set_option linter.all false
namespace Go.Proofs.Ytoajcekgoalhjaa
open Go.ChangeShapes Go.WideShapes Go.ChangeAt Go.RowKit Go.Lm
set_option linter.unusedSimpArgs false
set_option maxRecDepth 10000
theorem bs86 (h : LHeap) (n : Int) (V : LV) (hV : V.cell = true) : buildSliceL Try.prog 86 1 [(0, .agg [i n, V])] h = some (.slice h.next 0 1 (.ex 1), h.alloc (.cells [i n, V] .ex)) := by
  cases V <;> first | (cases hV; done) | exact nr (by kernel_rfl)
theorem bl113 (n : Int) (V : LV) (hV : V.cell = true) : buildL Try.prog 113 [(0, i n), (1, V)] = some (.agg [i n, V]) := by
  cases V <;> first | (cases hV; done) | exact nr (by kernel_rfl)
theorem ap86 {V U : LV} (hU : U.isStr = false) (g : LHeap) : builtinL Try.prog .append [86, 86] [V, U] g = appendL 2 32 V U g := append_ok (by kernel_rfl) hU g
section
variable {F : Nat → Prop} {g h h' : LHeap} {d k : Nat} {c : DC} {pl : List Int} {ws : List WX} {Zs : List Thing} {st : DSt} {S : Nat → Prop}
theorem is_ok (hw : DWf st) (hp : pl = st.pl) (Sp : Sep F g h (DkTs d c pl ws ++ Zs)) (n : Int) : Ok Try.prog 75 [.ptr d 0, i n] h fun v h' => v = .bool (decide (0 ≤ n ∧ n < st.cnt)) ∧ h' = h := by
  refine ok75 fun _ _ => ?_
  by_cases h0 : 0 ≤ n
  rotate_left
  · simp (disch := omega) only [F75, i, sh, sh2, shi, dec]
    exact ⟨by simp [h0], trivial⟩
  simp (disch := omega) only [F75, i, sh, sh2, shi, dec]
  refine (wr_at (by rw [hp]; exact hw.pl) ⟨hw.c1, hw.c2⟩ Sp).mono ?_
  rintro _ _ ⟨rfl, rfl⟩
  simp (disch := omega) only [i, sh, sh2, shi]
  exact ⟨by simp [h0], trivial⟩
theorem does_ok (Sp : Sep F g h (DkTs d c pl ws ++ Zs)) : Ok Try.prog 72 [.ptr d 0] h fun v h' => v = .bool true ∧ h' = h := by
  refine ok72 fun _ _ => ?_
  have x0 := Sp.cell 0 rfl
  simp (disch := omega) only [F72]
  have hO : Ok Try.prog 88 [.ptr d 0] h fun v h' => v = .bool false ∧ h' = h := by
    refine ok88 fun _ _ => ?_
    simp (disch := omega) only [F88, sh, sh2, nil_p ty23 true, x0]
    exact ⟨trivial, trivial⟩
  refine hO.mono ?_
  rintro _ _ ⟨rfl, rfl⟩
  simp (disch := omega) only [sh, sh2, x0]
  exact ⟨trivial, trivial⟩
theorem sector_ok (hl : pl.length < 2 ^ 40) (Sp : Sep F g h (DkTs d c pl ws ++ Zs)) {n : Int} (h0 : 0 ≤ n) (hn : n.toNat * 512 + 512 ≤ pl.length) : Ok Try.prog 73 [.ptr d 0, i n] h fun v h' => Part 1 c.PV (n.toNat * 512) 512 v ∧ h' = h := by
  refine ok73 fun _ _ => ?_
  have x0 := Sp.cell 0 rfl
  obtain ⟨W, e1, p⟩ := (Sp.row (V := c.PV) 1 rfl).cutP ((Sp.grow (V := c.PV) 1 rfl).capd) (k := n.toNat * 512) (n := 512) (by omega) hn
  have e2 : ((n.toNat * 512 : Nat) : Int) = n * 512 := by omega
  have e3 : ((n.toNat * 512 + 512 : Nat) : Int) = (n + 1) * 512 := by omega
  rw [e2, e3] at e1
  have hE : byteE.e = 1 := rfl
  rw [hE] at e1 p
  simp (disch := omega) only [F73, sh, sh2, x0, i, shi, dec, cut_t ty33 sz5 Nat.one_ne_zero, e1]
  exact ⟨p, trivial⟩
theorem Sep.left (Sp : Sep F g h (DkTs d c pl ws ++ Zs)) : Sep F g h (DkTs d c pl ws) := Sp.sub (List.sublist_append_left _ _)
theorem dk_row {w : WX} (hw : w ∈ ws) (Sp : Sep F g h (DkTs d c pl ws ++ Zs)) : Row h w.V byteE w.b := by
  have := Sp.ok w.vT (List.mem_append.2 (.inl (List.mem_append.2 (.inr (List.mem_map.2 ⟨w, hw, rfl⟩)))))
  exact this.1
theorem Read_ok (B : (DBox d S st).ok g) (lt : ∀ a, S a → a < g.next) (n : Int) : Ok Try.prog 42 [.ptr d 0, i n] g fun v h =>
    (¬ (0 ≤ n ∧ n < st.cnt) ∧ v = .tuple [.nils, i 20] ∧ h = g) ∨
    ((0 ≤ n ∧ n < st.cnt) ∧ ∃ V S', v = .tuple [V, i 0] ∧ V.cell = true ∧ Sep S g h [DBox d S' st, Thing.vec byteE V (st.rd n)]) := by
  refine ok42 fun wf _ => ?_
  obtain ⟨Ts, ⟨c, ws, rfl, hpd, dw⟩, Sp⟩ := box_open B lt
  have Sp0 : Sep S g g (DkTs d c st.pl ws ++ []) := by rw [List.append_nil]; exact Sp
  simp (disch := omega) only [F42, sh, sh2, nil_p ty23 true, i]
  refine (is_ok dw rfl Sp0 n).mono ?_
  rintro _ g ⟨rfl, rfl⟩
  by_cases hr : 0 ≤ n ∧ n < st.cnt
  rotate_left
  · rw [decide_eq_false hr]
    simp (disch := omega) only [sh, sh2, i]
    exact .inl ⟨hr, trivial, trivial⟩
  have hn : n.toNat * 512 + 512 ≤ st.pl.length := by rw [dw.pl]; omega
  have hpl : st.pl.length < 2 ^ 40 := by have := dw.pl; have := dw.c2; omega
  have x0 := Sp.cell 0 rfl
  have S1 := Sp.store 0 rfl [c.PV, c.QV, .map c.om, .bool false, i c.lf, i (IntKind.i64.wrap (c.r + 1)), i c.w, i c.f]
  have S2 : Sep S g (g.set d (.cells [c.PV, c.QV, .map c.om, .bool false, i c.lf, i (IntKind.i64.wrap (c.r + 1)), i c.w, i c.f] .ex)) (DkTs d { c with r := IntKind.i64.wrap (c.r + 1) } st.pl ws ++ []) := by rw [List.append_nil]; exact S1
  have x1 := S2.cell 0 rfl
  have hlk := (S2.at (T := Thing.map c.om intK.k (lastOf (ws.map WX.hd)) c.nm) 3 rfl).lookup (P := Try.prog) intK ty85 zr33 n true
  have hK : intK.k n = .int .i64 n := rfl
  rw [hK] at hlk
  simp only [i] at hlk x1
  -- a fresh copy is what comes
  have fin : ∀ {U : LV} {b : List Int} {g1 : LHeap}, Row g1 U byteE b → b.length = 512 → b = st.rd n → Sep S g g1 (DkTs d { c with r := IntKind.i64.wrap (c.r + 1) } st.pl ws ++ []) → Ok Try.prog 46 [U] g1 fun t32 g2 => (∃ V S', (LV.tuple [t32, i 0]) = .tuple [V, i 0] ∧ V.cell = true ∧ Sep S g g2 [DBox d S' st, Thing.vec byteE V (st.rd n)]) := by
    intro U b g1 R hb hrd S3
    refine (clone46_ok R (by omega)).mono ?_
    rintro V g2 ⟨O, mi, f⟩
    subst hrd
    rw [List.append_nil] at S3
    have S4 := S3.vec V O.row O.grow mi f O.lo
    have S5 : Sep S g g2 ([Thing.vec byteE V (st.rd n)] ++ DkTs d { c with r := IntKind.i64.wrap (c.r + 1) } st.pl ws) := S4.perm List.perm_append_comm
    obtain ⟨S', S6⟩ := S5.boxed (D := DkD d) (x := st) ⟨_, ws, rfl, hpd, dw⟩
    exact ⟨V, S', rfl, O.row.cell, S6.perm List.perm_append_comm⟩
  rw [decide_eq_true hr]
  simp (disch := omega) only [sh, sh2, shs, i, x0, shc, binL_add_int, x1]
  rcases last_pair n ws with ⟨w, hw, hwn, e1, e2⟩ | ⟨e1, e2⟩
  · rw [e1] at hlk
    simp only [if_true] at hlk
    simp (disch := omega) only [hlk, sh, sh2]
    rw [hpd] at e2
    refine (fin (dk_row hw S2) ?_ ?_ S2).mono fun v h hx => .inr ⟨hr, hx⟩
    · exact (dw.pd w.pr (by rw [← hpd]; exact List.mem_map.2 ⟨w, hw, rfl⟩)).2.2
    · simp [DSt.rd, e2]
  · rw [e1] at hlk
    simp only [if_true] at hlk
    simp (disch := omega) only [hlk, sh, sh2]
    refine (sector_ok hpl S2 hr.1 hn).mono ?_
    rintro W h1 ⟨p, rfl⟩
    rw [hpd] at e2
    have hlen : ((st.pl.drop (n.toNat * 512)).take 512).length = 512 := by rw [List.length_take, List.length_drop]; omega
    refine (fin (p.row (E := byteE) (S2.row (V := c.PV) 1 rfl) (by omega) hn) hlen ?_ S2).mono fun v h hx => .inr ⟨hr, hx⟩
    simp [DSt.rd, e2, sect]
theorem Write_ok (B : (DBox d S st).ok g) (lt : ∀ a, S a → a < g.next) (n : Int) {U : LV} {b : List Int} (R : Row g U byteE b) (hb : b.length < 2 ^ 40) (hp : st.pd.length ≤ 2 ^ 42 + 1000) : Ok Try.prog 49 [.ptr d 0, i n, U] g fun v h =>
    (¬ (0 ≤ n ∧ n < st.cnt) ∧ v = i 20 ∧ h = g) ∨
    ((0 ≤ n ∧ n < st.cnt) ∧ b.length ≠ 512 ∧ v = i 1 ∧ h = g) ∨
    ((0 ≤ n ∧ n < st.cnt) ∧ b.length = 512 ∧ v = i 0 ∧ ∃ S', Sep S g h [DBox d S' (st.wr n b)]) := by
  refine ok49 fun wf _ => ?_
  obtain ⟨Ts, ⟨c, ws, rfl, hpd, dw⟩, Sp⟩ := box_open B lt
  have Sp0 : Sep S g g (DkTs d c st.pl ws ++ []) := by rw [List.append_nil]; exact Sp
  simp (disch := omega) only [F49, sh, sh2, nil_p ty23 true, i]
  refine (is_ok dw rfl Sp0 n).mono ?_
  rintro _ g ⟨rfl, rfl⟩
  by_cases hr : 0 ≤ n ∧ n < st.cnt
  rotate_left
  · rw [decide_eq_false hr]
    simp (disch := omega) only [sh, sh2, i]
    exact .inl ⟨hr, trivial, trivial⟩
  rw [decide_eq_true hr]
  have hl := R.len (P := Try.prog) ty33
  by_cases h512 : b.length = 512
  rotate_left
  · have : ¬ (b.length : Int) = 512 := by omega
    simp (disch := omega) only [sh, sh2, i, shi, dec, b_len, hl]
    exact .inr (.inl ⟨hr, h512, trivial, trivial⟩)
  have h512' : (b.length : Int) = 512 := by omega
  simp (disch := omega) only [sh, sh2, i, shi, dec, b_len, hl]
  refine (does_ok Sp0).mono ?_
  rintro _ g ⟨rfl, rfl⟩
  simp (disch := omega) only [sh, sh2]
  refine (clone46_ok R (by omega)).mono ?_
  rintro V g1 ⟨O, mi, f⟩
  have S1 := Sp.vec V O.row O.grow mi f O.lo
  have cV := O.row.cell
  have x1 := S1.cell 0 rfl
  have S2 := S1.temp (.cells [i n, V] .ex)
  have x2 := S2.cell 0 rfl
  have x2b := (S2.temp (.cells [i n, V] .ex)).cell (a := d) 0 rfl
  obtain ⟨QV', g2, ea, S3, cQ, n3, f3, o3⟩ := S2.push (V := c.QV) (E := wrE) (l := ws.map WX.hd) 2 rfl (bytes := 32) (n, V) (cs := [i n, V]) (by simp [wrE, cV]) (by
    have : (ws.map WX.hd).length = st.pd.length := by rw [← hpd, List.length_map, List.length_map]
    omega)
  have hwre : wrE.e = 2 := rfl
  rw [hwre] at ea
  have hap := ap86 (V := c.QV) (U := .slice (g1.alloc (.cells [i n, V] .ex)).next 0 1 (.ex 1)) rfl ((g1.alloc (.cells [i n, V] .ex)).alloc (.cells [i n, V] .ex))
  rw [ea] at hap
  have hbs := bs86 (g1.alloc (.cells [i n, V] .ex)) n V cV
  have x3 := S3.cell (a := d) (vs := [c.PV, c.QV, .map c.om, .bool false, i c.lf, i c.r, i c.w, i c.f]) 0 rfl
  have htmp : g2.get g1.next = some (.cells [i n, V] .ex) := by
    rw [f3.eq g1.next (by simp [LHeap.next_alloc]) fun hq => by have := S1.lt (T := Thing.vec wrE c.QV (ws.map WX.hd)) 2 rfl hq; omega]
    exact get_alloc_eq _ _
  have S4 := S3.store (a := d) (vs := [c.PV, c.QV, .map c.om, .bool false, i c.lf, i c.r, i c.w, i c.f]) 0 rfl [c.PV, QV', .map c.om, .bool false, i c.lf, i c.r, i c.w, i c.f]
  have x4 := S4.cell (a := d) (vs := [c.PV, QV', .map c.om, .bool false, i c.lf, i c.r, i c.w, i c.f]) 0 rfl
  obtain ⟨g3, nm', em, S5, f5⟩ := S4.mset' (P := Try.prog) (κ := Int) (m := c.om) (mp := lastOf (ws.map WX.hd)) (n := c.nm) intK 3 rfl ty85 n V
  have x5 := S5.cell (a := d) (vs := [c.PV, QV', .map c.om, .bool false, i c.lf, i c.r, i c.w, i c.f]) 0 rfl
  have htmp' : (g2.set d (.cells [c.PV, QV', .map c.om, .bool false, i c.lf, i c.r, i c.w, i c.f] .ex)).get g1.next = some (.cells [i n, V] .ex) := by
    rw [get_set_ne _ _ (by have := S1.lt (T := Thing.cells d [c.PV, c.QV, .map c.om, .bool false, i c.lf, i c.r, i c.w, i c.f]) 0 rfl rfl; omega)]
    exact htmp
  have hK : intK.k n = .int .i64 n := rfl
  rw [hK] at em
  have S6 := S5.store (a := d) (vs := [c.PV, QV', .map c.om, .bool false, i c.lf, i c.r, i c.w, i c.f]) 0 rfl [c.PV, QV', .map c.om, .bool false, i c.lf, i c.r, i (IntKind.i64.wrap (c.w + 1)), i c.f]
  have hco : cellO (some 2) 0 (some (.cells [i n, V] .ex)) = some (.agg [i n, V]) := rfl
  simp only [i] at x1 x2 x2b x3 x4 x5 htmp htmp' hap hbs em hco
  simp (disch := omega) only [bl113 n V cV, sh, sh2, shc, i, cV, x1]
  simp (disch := omega) only [x2, x2b, hco, hbs, hap, sh, sh2, x3, store_o _ _ _ cQ, x4, htmp', em, x5, binL_add_int]
  simp (disch := omega) only [shs, x5, sh, sh2]
  refine ⟨trivial, .inr (.inr ⟨hr, h512, ?_⟩)⟩
  have hup : upd (lastOf (ws.map WX.hd)) n (some V) = lastOf ((ws ++ [(⟨n, V, b⟩ : WX)]).map WX.hd) := by
    funext k
    rw [List.map_append, List.map_cons, List.map_nil]
    show _ = lastOf (ws.map WX.hd ++ [(n, V)]) k
    rw [lastOf_app]
    by_cases hk : n = k
    · subst hk; rw [upd_at, if_pos rfl]
    · rw [upd_ne _ _ (Ne.symm hk), if_neg hk]
  rw [hup] at S6
  have S7 : Sep S g (g3.set d (.cells [c.PV, QV', .map c.om, .bool false, i c.lf, i c.r, i (IntKind.i64.wrap (c.w + 1)), i c.f] .ex)) (DkTs d { c with QV := QV', w := IntKind.i64.wrap (c.w + 1), nm := nm' } st.pl (ws ++ [(⟨n, V, b⟩ : WX)])) := by
    have e1 : (ws ++ [(⟨n, V, b⟩ : WX)]).map WX.vT = ws.map WX.vT ++ [Thing.vec byteE V b] := by simp [WX.vT]
    have e2 : (ws ++ [(⟨n, V, b⟩ : WX)]).map WX.hd = ws.map WX.hd ++ [(n, V)] := by simp [WX.hd]
    rw [e2] at S6
    rw [DkTs, e1, e2]
    exact S6
  exact S7.boxed (Ts := []) (D := DkD d) (x := st.wr n b) ⟨_, _, rfl, by simp [hpd, DSt.wr, WX.pr], dw.wr ⟨hr.1, hr.2, h512⟩⟩
end
end Go.Proofs.Ytoajcekgoalhjaa
