/-
  frame: fill.
-/
import Derived.Test.YtoajcekgoalhjaaFr4
set_option linter.all false
namespace Go.Proofs.Ytoajcekgoalhjaa
open Go.ChangeShapes Go.WideShapes Go.ChangeAt Go.RowKit Go.Lm
set_option linter.unusedSimpArgs false
set_option maxRecDepth 10000
theorem sz3 : sizeL Try.prog 3 = some 1 := by kernel_rfl
section
variable {F : Nat → Prop} {g h h' : LHeap} {x m a k : Nat} {cs : List LV} {CV CC : LV} {counts common bs : List Int} {rs : List FX} {r : FX} {Zs : List Thing} {st : FSt} {S : Nat → Prop} {first : Int} {harts : Nat} {Ls : List LV} {V U : LV} {l l2 : List Int}
theorem fr_app (Sp : Sep F g h (FrG x m a cs CV counts CC common bs rs ++ Zs)) (hk : rs[k]? = some r) (R : Row h U intE l2) (hb : r.l.length + l2.length ≤ 2 ^ 32) :
    ∃ V' h', builtinL Try.prog .append [50, 50] [r.V, U] h = some (V', h') ∧ Sep F g h' (FrG x m a cs CV counts CC common bs (rs.set k ⟨V', r.l ++ l2⟩) ++ Zs) ∧ V'.cell = true := by
  obtain ⟨V', h', e, S', c, _⟩ := Sp.app (5 + k) (fr_at hk) (bytes := 8) R (by omega)
  rw [fr_set (List.getElem?_eq_some_iff.1 hk).1] at S'
  exact ⟨V', h', (ap50 R.not_str h).trans e, S', c⟩
theorem fr_appc (Sp : Sep F g h (FrG x m a cs CV counts CC common bs rs ++ Zs)) (R : Row h U intE l2) (hb : common.length + l2.length ≤ 2 ^ 32) :
    ∃ V' h', builtinL Try.prog .append [50, 50] [CC, U] h = some (V', h') ∧ Sep F g h' (FrG x m a cs CV counts V' (common ++ l2) bs rs ++ Zs) ∧ V'.cell = true := by
  obtain ⟨V', h', e, S', c, _⟩ := Sp.app (E := intE) (V := CC) (l := common) 2 rfl (bytes := 8) R (by omega)
  exact ⟨V', h', (ap50 R.not_str h).trans e, S', c⟩
theorem fr_stk (Sp : Sep F g h (FrG x m a (frC m first harts CV Ls U) CV counts CC common bs rs ++ Zs)) (h8 : Ls.length = 8) (hk : k < 8) (c : V.cell = true) :
    ∃ h', storeV 1 (.ptr x (4 + k)) V h = some h' ∧ Sep F g h' (FrG x m a (frC m first harts CV (Ls.set k V) U) CV counts CC common bs rs ++ Zs) := by
  have e := fr_st (h := h) (fr_x Sp) (k := 4 + k) (by rw [frC_len]; omega) c
  rw [frC_set (by omega)] at e
  exact ⟨_, e, Sp.store 0 rfl _⟩
theorem fr_stc (Sp : Sep F g h (FrG x m a (frC m first harts CV Ls U) CV counts CC common bs rs ++ Zs)) (h8 : Ls.length = 8) (c : V.cell = true) :
    ∃ h', storeV 1 (.ptr x 12) V h = some h' ∧ Sep F g h' (FrG x m a (frC m first harts CV Ls V) CV counts CC common bs rs ++ Zs) := by
  have e := fr_st (h := h) (fr_x Sp) (k := 12) (by rw [frC_len]; omega) c
  rw [frC_setc h8] at e
  exact ⟨_, e, Sp.store 0 rfl _⟩
theorem fr_newk (Sp : Sep F g h (FrG x m a cs CV counts CC common bs rs ++ Zs)) (hk : rs[k]? = some r) (O : Vec intE h.next h' V l) (mi : Mine h' V) (f : Fr noF h h') : Sep F g h' (FrG x m a cs CV counts CC common bs (rs.set k ⟨V, l⟩) ++ Zs) := by
  have S' := (Sp.vec V O.row O.grow mi f O.lo).move (fr_at hk)
  rw [fr_set (List.getElem?_eq_some_iff.1 hk).1] at S'
  exact S'
theorem fr_newc (Sp : Sep F g h (FrG x m a cs CV counts CC common bs rs ++ Zs)) (O : Vec intE h.next h' V l) (mi : Mine h' V) (f : Fr noF h h') : Sep F g h' (FrG x m a cs CV counts V l bs rs ++ Zs) :=
  (Sp.vec V O.row O.grow mi f O.lo).move (i := 2) rfl
theorem fr_grow (Sp : Sep F g h (FrG x m a cs CV counts CC common bs rs ++ Zs)) (hk : rs[k]? = some r) : Grow h r.V intE.e := Sp.grow _ (fr_at hk)
theorem fr_growc (Sp : Sep F g h (FrG x m a cs CV counts CC common bs rs ++ Zs)) : Grow h CC intE.e := Sp.grow (l := common) 2 rfl
theorem b_min8 (n : Nat) (g : LHeap) : builtinL Try.prog .min [3, 3] [.int .i64 (n : Int), .int .i64 8] g = some (.int .i64 ((min n 8 : Nat) : Int), g) := by
  have e : builtinL Try.prog .min [3, 3] [.int .i64 (n : Int), .int .i64 8] g = some (.int .i64 (if (8 : Int) < n then 8 else n), g) := nr rfl
  rw [e]
  congr 3
  split <;> omega
/-- l[:j], l[j:]. -/
theorem cut_hi (R : Row h V intE l) (G : Grow h V intE.e) {j : Nat} (hj : j ≤ l.length) : ∃ U, cutT Try.prog 50 V none (some (.int .i64 (j : Int))) none (limL V h) = some U ∧ Row h U intE (l.take j) := by
  obtain ⟨U, e, R', _⟩ := R.cut G.capd (i := 0) (j := j) (by omega) hj none (some j) rfl rfl
  exact ⟨U, (((cut_t ty50 sz3 (by decide) _ _).1 _ _).trans e), by simpa using R'⟩
theorem cut_lo (R : Row h V intE l) (G : Grow h V intE.e) {j : Nat} (hj : j ≤ l.length) : ∃ U, cutT Try.prog 50 V (some (.int .i64 (j : Int))) none none (limL V h) = some U ∧ Row h U intE (l.drop j) := by
  obtain ⟨U, e, R', _⟩ := R.cut G.capd (i := j) (j := l.length) hj (Nat.le_refl _) (some j) none rfl rfl
  refine ⟨U, (((cut_t ty50 sz3 (by decide) _ _).2.1 _ _).trans e), ?_⟩
  rw [List.take_of_length_le (by rw [List.length_drop]; omega)] at R'
  exact R'
/-- The first of the longest. -/
def rich (ls : List (List Int)) : Nat → Nat
  | 0 => 0
  | n + 1 => if ((ls[rich ls n]?).getD []).length < ((ls[n]?).getD []).length then n else rich ls n
theorem rich_le (ls : List (List Int)) : ∀ n, rich ls n ≤ n
  | 0 => Nat.le_refl _
  | n + 1 => by have := rich_le ls n; simp only [rich]; split <;> omega
theorem rich_lt (ls : List (List Int)) {n : Nat} (hn : 1 ≤ n) : rich ls n < n := by
  cases n with
  | zero => omega
  | succ n => have := rich_le ls n; simp only [rich]; split <;> omega
theorem rich_max (ls : List (List Int)) : ∀ n k, k < n → ((ls[k]?).getD []).length ≤ ((ls[rich ls n]?).getD []).length
  | 0, k, h => by omega
  | n + 1, k, h => by
    simp only [rich]
    by_cases hk : k = n
    · subst hk; split <;> omega
    · have := rich_max ls n k (by omega)
      split <;> omega
/-- What fill makes of the lists and of the common ones. -/
def fillL (ls : List (List Int)) (harts k : Nat) (common : List Int) : List (List Int) × List Int :=
  if common = [] then
    let l := (ls[rich ls harts]?).getD []
    ((ls.set k (l.take ((l.length + 1) / 2))).set (rich ls harts) (l.drop ((l.length + 1) / 2)), [])
  else (ls.set k (common.take 8), common.drop 8)
theorem fill_ok (Sp : Sep F g h (FrT x m a first harts CV counts CC common bs rs ++ Zs)) (h8 : rs.length = 8) (hh : harts ≤ 8) (hb : common.length + lensL rs ≤ 4096) (hk : rs[k]? = some r) (hr : r.l = []) (hkh : k < harts) (hfree : common = [] → ((((rs.map (·.l))[rich (rs.map (·.l)) harts]?).getD []) : List Int) ≠ []) :
    Ok Try.prog 56 [.ptr x 0, i k] h fun _ h' => ∃ CC' rs', Sep F g h' (FrT x m a first harts CV counts CC' (fillL (rs.map (·.l)) harts k common).2 bs rs' ++ Zs) ∧ rs'.map (·.l) = (fillL (rs.map (·.l)) harts k common).1 := by
  refine ok56 fun _ _ => ?_
  have c := fr_fc Sp h8
  have c12 := c.c12
  have hl := (fr_cc Sp).len (P := Try.prog) ty50
  have hmin := b_min8 common.length h
  have kl := (List.getElem?_eq_some_iff.1 hk).1
  have hix := ix8 (x := x) (k := k) (by omega)
  have hVk : (rs.map (·.V))[k]? = some r.V := by rw [List.getElem?_map, hk]; rfl
  have h8V : (rs.map (·.V)).length = 8 := by simp [h8]
  have hld := FC.list (fr_x Sp) hVk
  by_cases hc : common = []
  · subst hc
    have hfr := hfree rfl
    have hmin0 : builtinL Try.prog .min [3, 3] [.int .i64 ((0 : Nat) : Int), .int .i64 8] h = some (.int .i64 0, h) := b_min8 0 h
    have hlt := rich_lt (rs.map (·.l)) (n := harts) (by omega)
    simp (disch := omega) only [F56, i, sh, sh2, shi, dec, c12, b_len, hl, hmin0, List.length_nil]
    have c2 := c.c2
    simp (disch := omega) only [J56_0, J56_1, J56_3, i, sh, sh2, shi, dec, c2]
    have lat : ∀ j : Nat, j < 8 → ∃ r2, rs[j]? = some r2 ∧ ixAddrL (some 8) 1 (.ptr x 4) (.int .i64 (j : Int)) = some (.ptr x (4 + j)) ∧ cellO none (4 + j) (h.get x) = some r2.V ∧ lenL Try.prog 50 r2.V h = some (.int .i64 (r2.l.length : Int)) ∧ ((rs.map (·.l))[j]?).getD [] = r2.l := fun j hj => by
      have hj' : rs[j]? = some rs[j] := List.getElem?_eq_getElem (by omega)
      refine ⟨rs[j], hj', ix8 hj, FC.list (fr_x Sp) (by rw [List.getElem?_map, hj']; rfl), (fr_row Sp hj').len (P := Try.prog) ty50 h, by rw [List.getElem?_map, hj']; rfl⟩
    refine loop_n (fun n (s : LV × LV) h' => ∃ j : Nat, s = (LV.int .i64 (rich (rs.map (·.l)) j : Int), LV.int .i64 (j : Int)) ∧ j + n = harts ∧ h' = h) (n := harts) ⟨0, rfl, by omega, rfl⟩ ?_
    rintro n s h' ⟨j, rfl, hj, rfl⟩
    cases n with
    | succ n =>
      have hle := rich_le (rs.map (·.l)) j
      obtain ⟨r2, hr2, ix2, ld2, len2, g2⟩ := lat j (by omega)
      obtain ⟨r3, hr3, ix3, ld3, len3, g3⟩ := lat (rich (rs.map (·.l)) j) (by omega)
      by_cases hlen : r3.l.length < r2.l.length
      · simp (disch := omega) only [L56_4, i, sh, sh2, shi, dec, ix2, ld2, len2, ix3, ld3, len3]
        refine ⟨n, by omega, j + 1, ?_, by omega, trivial⟩
        simp only [rich, g2, g3, if_pos hlen]
        congr 2
      · simp (disch := omega) only [L56_4, i, sh, sh2, shi, dec, ix2, ld2, len2, ix3, ld3, len3]
        refine ⟨n, by omega, j + 1, ?_, by omega, trivial⟩
        simp only [rich, g2, g3, if_neg hlen]
        congr 2
    | zero =>
      obtain rfl : j = harts := by omega
      obtain ⟨r3, hr3, ix3, ld3, len3, g3⟩ := lat (rich (rs.map (·.l)) j) (by omega)
      rw [g3] at hfr
      have hne : k ≠ rich (rs.map (·.l)) j := fun e => by
        rw [← e, hk] at hr3
        cases hr3
        exact hfr hr
      have p3 : 0 < r3.l.length := List.length_pos_iff.2 hfr
      have le3 := lens_le rs (rich (rs.map (·.l)) j + 1)
      rw [lens_take hr3] at le3
      obtain ⟨w, hw⟩ : ∃ w : Nat, w = (r3.l.length + 1) / 2 := ⟨_, rfl⟩
      have hq : binL Try.prog .quo 3 true (.int .i64 ((r3.l.length : Int) + 1)) (.int .i64 2) = some (.int .i64 (w : Int)) := by
        rw [binL_quo_int _ _ _ _ _ (by decide), Int.tdiv_eq_ediv_of_nonneg (by omega), wrap_in (by omega) (by omega)]
        congr 2
        omega
      obtain ⟨U, hcut, RU⟩ := cut_hi (fr_row Sp hr3) (fr_grow Sp hr3) (j := w) (by omega)
      obtain ⟨V1, h1, happ, S1, cV1⟩ := fr_app Sp hk RU (by rw [hr, List.length_take]; simp; omega)
      obtain ⟨h2, hst, S2⟩ := fr_stk S1 h8V (k := k) (V := V1) (by omega) cV1
      have hr3' : (rs.set k ⟨V1, r.l ++ r3.l.take w⟩)[rich (rs.map (·.l)) j]? = some r3 := by rw [List.getElem?_set_ne hne]; exact hr3
      have ld4 := FC.list (fr_x S2) (k := rich (rs.map (·.l)) j) (V := r3.V) (by rw [List.getElem?_set_ne hne, List.getElem?_map, hr3]; rfl)
      obtain ⟨U2, hcut2, RU2⟩ := cut_lo (fr_row S2 hr3') (fr_grow S2 hr3') (j := w) (by omega)
      simp (disch := omega) only [L56_4, J56_2, i, sh, sh2, shi, dec, ix3, ld3, b_len, len3, hq, hix, hld, hcut, happ, hst, ld4, hcut2]
      refine ⟨⟨⟨?_, trivial⟩, trivial⟩, trivial⟩
      refine (clone64_ok RU2 (by rw [List.length_drop]; omega)).mono ?_
      rintro V3 h3 ⟨O, mi, f⟩
      have S3 := fr_newk S2 hr3' O mi f
      obtain ⟨h4, hst3, S4⟩ := fr_stk S3 (by simp [h8]) (k := rich (rs.map (·.l)) j) (V := V3) (by omega) O.row.cell
      simp (disch := omega) only [i, sh, sh2, ix3, hst3]
      refine ⟨⟨CC, (rs.set k ⟨V1, r.l ++ r3.l.take w⟩).set (rich (rs.map (·.l)) j) ⟨V3, r3.l.drop w⟩, ?_, ?_⟩, trivial⟩
      · unfold FrT fillL
        rw [List.map_set, List.map_set]
        exact S4
      · unfold fillL
        rw [if_pos rfl, List.map_set, List.map_set, hr, List.nil_append]
        simp only [g3, ← hw]
  · have h0 : 0 < common.length := List.length_pos_iff.2 hc
    obtain ⟨U, hcut, RU⟩ := cut_hi (fr_cc Sp) (fr_growc Sp) (j := min common.length 8) (by omega)
    obtain ⟨V1, h1, happ, S1, cV1⟩ := fr_app Sp hk RU (by rw [hr, List.length_take]; simp; omega)
    obtain ⟨h2, hst, S2⟩ := fr_stk S1 h8V (k := k) (V := V1) (by omega) cV1
    have c2 := FC.of (fr_x S2) (by simp [h8])
    have c212 := c2.c12
    obtain ⟨U2, hcut2, RU2⟩ := cut_lo (fr_cc S2) (fr_growc S2) (j := min common.length 8) (by omega)
    simp (disch := omega) only [F56, i, sh, sh2, shi, dec, c12, b_len, hl, hmin, hix, hld, hcut, happ, hst, c212, hcut2]
    refine ⟨⟨?_, trivial⟩, trivial⟩
    refine (clone64_ok RU2 (by rw [List.length_drop]; omega)).mono ?_
    rintro V3 h3 ⟨O, mi, f⟩
    have S3 := fr_newc S2 O mi f
    obtain ⟨h4, hst3, S4⟩ := fr_stc S3 (by simp [h8]) (V := V3) O.row.cell
    simp (disch := omega) only [i, sh, sh2, hst3]
    have e : min common.length 8 = 8 ∨ min common.length 8 = common.length := by omega
    refine ⟨V3, rs.set k ⟨V1, r.l ++ common.take (min common.length 8)⟩, ?_, ?_⟩
    · have e2 : (fillL (rs.map (·.l)) harts k common).2 = common.drop (min common.length 8) := by
        unfold fillL
        rw [if_neg hc]
        rcases Nat.le_total common.length 8 with h | h
        · rw [Nat.min_eq_left h, List.drop_of_length_le (Nat.le_refl _)]
          exact List.drop_of_length_le h
        · rw [Nat.min_eq_right h]
      rw [e2]
      unfold FrT
      rw [List.map_set]
      exact S4
    · unfold fillL
      rw [if_neg hc, List.map_set, hr, List.nil_append]
      congr 1
      rcases Nat.le_total common.length 8 with h | h
      · rw [Nat.min_eq_left h, List.take_length, List.take_of_length_le h]
      · rw [Nat.min_eq_right h]
end
end Go.Proofs.Ytoajcekgoalhjaa
