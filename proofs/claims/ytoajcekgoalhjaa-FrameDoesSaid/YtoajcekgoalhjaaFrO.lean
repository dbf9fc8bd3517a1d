/-
  frame, the reference: fill.
-/
import Derived.Test.YtoajcekgoalhjaaFrN
set_option linter.all false
namespace Go.Proofs.Ytoajcekgoalhjaa
open Go.ChangeShapes Go.WideShapes Go.ChangeAt Go.RowKit Go.Lm
set_option linter.unusedSimpArgs false
set_option linter.unusedVariables false
set_option maxRecDepth 10000
section
variable {F : Nat → Prop} {g h h' : LHeap} {x m a k c : Nat} {cs Vs : List LV} {CV CC SV W : LV} {counts common bs bs' : List Int} {rs : List FX} {r : FX} {Zs Ts : List Thing} {st : FSt} {S : Nat → Prop} {first : Int} {harts : Nat} {V U : LV} {l l2 : List Int}
/-- A part of a row is copied, as the text says it: the cut, an empty row, append. -/
theorem part_hi (Sp : Sep F g h Ts) (R : Row h V intE l) (C : Capd V 1) (hlt : ∀ b, V.obj = some b → b < h.next) (hb : l.length ≤ 8192) {j : Nat} (hj : j ≤ l.length) : ∃ U W h', cutT Try.prog 50 V none (some (.int .i64 (j : Int))) none (limL V h) = some U ∧ builtinL Try.prog .append [50, 50] [.slice h.next 0 0 (.ex 0), U] (h.alloc (.cells [] .ex)) = some (W, h') ∧ Sep F g h' (Ts ++ [Thing.vec intE W (l.take j)]) ∧ Fr noF h h' := by
  obtain ⟨U, e, R', o⟩ := cut_hi' R C hj
  obtain ⟨W, h', a, S', f⟩ := copy_ap Sp R' (fun b hb => hlt b (o b hb)) (by rw [List.length_take]; omega)
  exact ⟨U, W, h', e, a, S', f⟩
theorem part_lo (Sp : Sep F g h Ts) (R : Row h V intE l) (C : Capd V 1) (hlt : ∀ b, V.obj = some b → b < h.next) (hb : l.length ≤ 8192) {j : Nat} (hj : j ≤ l.length) : ∃ U W h', cutT Try.prog 50 V (some (.int .i64 (j : Int))) none none (limL V h) = some U ∧ builtinL Try.prog .append [50, 50] [.slice h.next 0 0 (.ex 0), U] (h.alloc (.cells [] .ex)) = some (W, h') ∧ Sep F g h' (Ts ++ [Thing.vec intE W (l.drop j)]) ∧ Fr noF h h' := by
  obtain ⟨U, e, R', o⟩ := cut_lo' R C hj
  obtain ⟨W, h', a, S', f⟩ := copy_ap Sp R' (fun b hb => hlt b (o b hb)) (by rw [List.length_drop]; omega)
  exact ⟨U, W, h', e, a, S', f⟩
/-- The same, where the cut comes behind the empty row. -/
theorem part_lo' (Sp : Sep F g h Ts) (R : Row h V intE l) (C : Capd V 1) (hlt : ∀ b, V.obj = some b → b < h.next) (hb : l.length ≤ 8192) {j : Nat} (hj : j ≤ l.length) : ∃ U W h', cutT Try.prog 50 V (some (.int .i64 (j : Int))) none none (limL V (h.alloc (.cells [] .ex))) = some U ∧ builtinL Try.prog .append [50, 50] [.slice h.next 0 0 (.ex 0), U] (h.alloc (.cells [] .ex)) = some (W, h') ∧ Sep F g h' (Ts ++ [Thing.vec intE W (l.drop j)]) ∧ Fr noF h h' := by
  have f0 : Fr noF h (h.alloc (.cells [] .ex)) := Fr.alloc _ _
  have Ra : Row (h.alloc (.cells [] .ex)) V intE l := R.fr fun b hb => f0.eq b (hlt b hb) id
  obtain ⟨U, e, R', o⟩ := cut_lo' Ra C hj
  have R2 : Row h U intE (l.drop j) := R'.fr fun b hb => (f0.eq b (hlt b (o b hb)) id).symm
  obtain ⟨W, h', a, S', f⟩ := copy_ap Sp R2 (fun b hb => hlt b (o b hb)) (by rw [List.length_drop]; omega)
  exact ⟨U, W, h', e, a, S', f⟩
theorem last_row (Sp : Sep F g h (Ts ++ [Thing.row intE W l])) : Row h W intE l ∧ ∀ b, W.obj = some b → b < h.next :=
  ⟨Sep.rowR Sp Ts.length (by simp), fun b hb => Sp.lt (T := Thing.row intE W l) Ts.length (by simp) hb⟩
theorem Capds.set (C : Capds rs) {W : LV} (h : Capd W 1) : Capds (rs.set k ⟨W, l⟩) := fun j r hj => by
  rw [List.getElem?_set] at hj
  split at hj
  · split at hj
    · cases hj; exact h
    · cases hj
  · exact C j r hj
theorem rg_growc (Sp : Sep F g h (RG x first CV counts SV Vs CC common rs ++ Zs)) : Capd CC 1 := (Sp.grow (E := intE) (V := CC) (l := common) 3 rfl).capd
theorem last_capd (Sp : Sep F g h (Ts ++ [Thing.vec intE W l])) : Capd W 1 := (Sp.grow (E := intE) (V := W) (l := l) Ts.length (by simp)).capd
theorem Rfill_ok (Sp : Sep F g h (RT x first CV counts SV CC common rs ++ [])) (C : Capds rs) (h8 : rs.length = harts) (hh : harts ≤ 8) (hc4 : common.length ≤ 4096) (hb : ∀ (j : Nat) (r : FX), rs[j]? = some r → r.l.length ≤ 4096) (hk : rs[k]? = some r) (hr : r.l = []) :
    Ok Try.prog 86 [.ptr x 0, i k] h fun _ h' => ∃ CC' rs', Sep F g h' (RT x first CV counts SV CC' (fillL (rs.map (·.l)) harts k common).2 rs' ++ []) ∧ Capds rs' ∧ rs'.map (·.l) = (fillL (rs.map (·.l)) harts k common).1 := by
  refine ok86 fun _ _ => ?_
  have kl := (List.getElem?_eq_some_iff.1 hk).1
  have x0 := rg_x Sp
  have hl := (rg_cc Sp).len (P := Try.prog) ty50
  have hmin := b_min8' common.length h
  have hbs := bs50_0
  by_cases hc : common = []
  · subst hc
    have hmin0 : builtinL Try.prog .min [3, 3] [.int .i64 8, .int .i64 ((0 : Nat) : Int)] h = some (.int .i64 0, h) := b_min8' 0 h
    have hlt := rich_lt (rs.map (·.l)) (n := harts) (by omega)
    have hls : lenL Try.prog 103 SV h = some (.int .i64 (harts : Int)) := by rw [(rg_sv Sp).len ty103, List.length_map, h8]
    simp (disch := omega) only [F86, i, sh, sh2, shi, dec, x0, b_len, hl, hmin0, List.length_nil, J86_0, J86_1, J86_3, hls]
    have lat : ∀ j : Nat, j < harts → ∃ r2 b off, rs[j]? = some r2 ∧ ixAddrL none 1 SV (.int .i64 (j : Int)) = some (.ptr b off) ∧ cellO none off (h.get b) = some r2.V ∧ lenL Try.prog 50 r2.V h = some (.int .i64 (r2.l.length : Int)) ∧ ((rs.map (·.l))[j]?).getD [] = r2.l := fun j hj => by
      have hj' : rs[j]? = some rs[j] := List.getElem?_eq_getElem (by omega)
      obtain ⟨b, off, e1, e2⟩ := rg_ld Sp hj'
      refine ⟨rs[j], b, off, hj', e1, e2, (rg_row Sp hj').len (P := Try.prog) ty50 h, by rw [List.getElem?_map, hj']; rfl⟩
    refine loop_n (fun n (s : LV × LV) h' => ∃ j : Nat, s = (LV.int .i64 (rich (rs.map (·.l)) j : Int), LV.int .i64 (j : Int)) ∧ j + n = harts ∧ h' = h) (n := harts) ⟨0, rfl, by omega, rfl⟩ ?_
    rintro n s h' ⟨j, rfl, hj, rfl⟩
    cases n with
    | succ n =>
      have hle := rich_le (rs.map (·.l)) j
      obtain ⟨r2, b2, o2, hr2, ix2, ld2, len2, g2⟩ := lat j (by omega)
      obtain ⟨r3, b3, o3, hr3, ix3, ld3, len3, g3⟩ := lat (rich (rs.map (·.l)) j) (by omega)
      by_cases hlen : r3.l.length < r2.l.length
      · simp (disch := omega) only [L86_4, i, sh, sh2, shi, dec, x0, ix2, ld2, b_len, len2, ix3, ld3, len3]
        refine ⟨n, by omega, j + 1, ?_, by omega, trivial⟩
        simp only [rich, g2, g3, if_pos hlen]
        congr 2
      · simp (disch := omega) only [L86_4, i, sh, sh2, shi, dec, x0, ix2, ld2, b_len, len2, ix3, ld3, len3]
        refine ⟨n, by omega, j + 1, ?_, by omega, trivial⟩
        simp only [rich, g2, g3, if_neg hlen]
        congr 2
    | zero =>
      obtain rfl : j = harts := by omega
      obtain ⟨r3, b3, o3, hr3, ix3, ld3, len3, g3⟩ := lat (rich (rs.map (·.l)) j) (by omega)
      have le3 := hb _ _ hr3
      obtain ⟨w, hw⟩ : ∃ w : Nat, w = (r3.l.length + 1) / 2 := ⟨_, rfl⟩
      have hq : binL Try.prog .quo 3 true (.int .i64 ((r3.l.length : Int) + 1)) (.int .i64 2) = some (.int .i64 (w : Int)) := by
        rw [binL_quo_int _ _ _ _ _ (by decide), Int.tdiv_eq_ediv_of_nonneg (by omega), wrap_in (by omega) (by omega)]
        congr 2
        omega
      have hlt3 : ∀ b, r3.V.obj = some b → b < h'.next := fun b hb => Sp.lt (T := Thing.row intE r3.V r3.l) _ (rg_at hr3) hb
      obtain ⟨U1, W1, h1, cut1, app1, S1, f1⟩ := part_lo Sp (rg_row Sp hr3) (C _ _ hr3) hlt3 (by omega) (j := w) (by omega)
      have C1 := last_capd S1
      have xa := rg_x (Sp.temp (.cells [] .ex))
      have x1 := rg_x S1.init
      obtain ⟨b4, o4, h2, ix4, st4, S2⟩ := rg_swap (vec_row S1) hr3
      have hr2' : (rs.set (rich (rs.map (·.l)) j) ⟨W1, r3.l.drop w⟩)[rich (rs.map (·.l)) j]? = some ⟨W1, r3.l.drop w⟩ := List.getElem?_set_self (by omega)
      have x2 := rg_x S2.init
      rw [ix3] at ix4
      cases ix4
      obtain ⟨hrow, hlt4⟩ := last_row S2
      obtain ⟨U5, W5, h5, cut5, app5, S5, f5⟩ := part_hi S2.init hrow (C _ _ hr3) hlt4 (by omega) (j := w) (by omega)
      have C5 := last_capd S5
      have xb := rg_x (S2.init.temp (.cells [] .ex))
      have x5 := rg_x S5.init
      obtain ⟨r6, hr6⟩ : ∃ r6, (rs.set (rich (rs.map (·.l)) j) ⟨W1, r3.l.drop w⟩)[k]? = some r6 := ⟨_, List.getElem?_eq_getElem (by rw [List.length_set]; omega)⟩
      obtain ⟨b7, o7, h7, ix7, st7, S7⟩ := rg_swap (vec_row S5) hr6
      simp (disch := omega) only [L86_4, J86_2, i, sh, sh2, shi, dec, x0, ix3, ld3, b_len, len3, hq, cut1, hbs, xa, app1, x1, st4, x2, cut5, xb, app5, x5, ix7, st7]
      refine ⟨⟨trivial, ⟨trivial, ⟨⟨trivial, ⟨trivial, ⟨?_, trivial⟩⟩, trivial⟩, trivial⟩, trivial⟩, trivial⟩, trivial⟩
      refine ⟨CC, (rs.set (rich (rs.map (·.l)) j) ⟨W1, r3.l.drop w⟩).set k ⟨W5, r3.l.take w⟩, ?_, (C.set C1).set C5, ?_⟩
      · unfold fillL
        rw [if_pos rfl]
        exact S7.init
      · unfold fillL
        rw [if_pos rfl, List.map_set, List.map_set]
        simp only [g3, ← hw]
        by_cases e : k = rich (rs.map (·.l)) j
        · have e2 : r = r3 := by rw [← e, hk] at hr3; exact Option.some.inj hr3
          rw [← e2, hr, ← e]
          simp
        · exact List.set_comm _ _ (Ne.symm e)
  · have h0 : 0 < common.length := List.length_pos_iff.2 hc
    have hltc : ∀ b, CC.obj = some b → b < h.next := fun b hb => Sp.lt (T := Thing.vec intE CC common) 3 rfl hb
    obtain ⟨U1, W1, h1, cut1, app1, S1, f1⟩ := part_hi Sp (rg_cc Sp) (rg_growc Sp) hltc (by omega) (j := min common.length 8) (by omega)
    have C1 := last_capd S1
    have xa := rg_x (Sp.temp (.cells [] .ex))
    have x1 := rg_x S1.init
    obtain ⟨b4, o4, h2, ix4, st4, S2⟩ := rg_swap (vec_row S1) hk
    have S2 := S2.init
    have hltc2 : ∀ b, CC.obj = some b → b < h2.next := fun b hb => S2.lt (T := Thing.vec intE CC common) 3 rfl hb
    obtain ⟨U5, W5, h5, cut5, app5, S5, f5⟩ := part_lo' S2 (rg_cc S2) (rg_growc S2) hltc2 (by omega) (j := min common.length 8) (by omega)
    have xb := rg_x (S2.temp (.cells [] .ex))
    have x5 := rg_x S5.init
    obtain ⟨h7, st7, S7, _⟩ := rg_putc S5
    simp (disch := omega) only [F86, i, sh, sh2, shi, dec, x0, b_len, hl, hmin, cut1, hbs, xa, app1, x1, ix4, st4, xb, cut5, app5, x5, st7]
    refine ⟨⟨trivial, trivial, ⟨trivial, ⟨?_, trivial⟩⟩, trivial⟩, trivial⟩
    refine ⟨W5, rs.set k ⟨W1, common.take (min common.length 8)⟩, ?_, C.set C1, ?_⟩
    · have e2 : (fillL (rs.map (·.l)) harts k common).2 = common.drop (min common.length 8) := by
        unfold fillL
        rw [if_neg hc]
        rcases Nat.le_total common.length 8 with h | h
        · rw [Nat.min_eq_left h, List.drop_of_length_le (Nat.le_refl _)]
          exact List.drop_of_length_le h
        · rw [Nat.min_eq_right h]
      rw [e2]
      exact S7
    · unfold fillL
      rw [if_neg hc, List.map_set]
      congr 1
      rcases Nat.le_total common.length 8 with h | h
      · rw [Nat.min_eq_left h, List.take_length, List.take_of_length_le h]
      · rw [Nat.min_eq_right h]
end
end Go.Proofs.Ytoajcekgoalhjaa
