/-
  parapetref23.Parse: what it tells of any bytes, the same as image.Parse.
-/
import Derived.Test.YtaofgdibpbpalaaImT
set_option linter.all false
namespace Go.Proofs.Ytaofgdibpbpalaa
open Go.ChangeShapes Go.WideShapes Go.ChangeAt Go.RowKit Go.Lm
set_option linter.unusedSimpArgs false
theorem ap23c {V U : LV} {us : List Int} {h : LHeap} (R : Row h U byteE us) (g : LHeap) : builtinL Try.prog .append [23, 23] [V, U] g = appendL 1 1 V U g := ap23 R.not_str g
set_option maxRecDepth 4000 in
set_option maxHeartbeats 4000000 in
theorem ref_segs {g h : LHeap} {V0 N : LV} {bs : List Int} {xi : Nat} (wf : g.Wf) (RV : Row g V0 byteE bs) (cV : Capd V0 1) (hV : ∀ a, V0.obj = some a → a < g.next) (hB : Bytes bs) (hl : bs.length ≤ 16384)
    (S : Sep noF g h [.cells g.next Z3, .vec intE N (words (bs.drop 4)), .cells xi [i (wd bs 0), .nils, .nils], .vec segE .nils [], Rows [] (sgK bs 0), .vec zE .nils (zeK bs 0)]) (hw1 : wd bs 1 ≤ 16) (hw2 : wd bs 2 ≤ 16)
    (hr : 10 + 4 * wd bs 1 + 4 * wd bs 2 ≤ bs.length) : J15_5 V0 (.ptr g.next 0) N (.ptr xi 0) h (Parsed g bs) := by
  have p1 := (wd_range hB 1).1
  have p2 := (wd_range hB 2).1
  have hW : 3 + 2 * wd bs 1 + 2 * wd bs 2 ≤ (words (bs.drop 4)).length := by rw [words_len, List.length_drop]; omega
  have hlen := RV.len (P := Try.prog) ty.2.2
  have Nm := num_of (S.row 1 rfl)
  have n2 := Nm.ix 2 2 rfl (by omega)
  have l2 := Nm.ld 2 (by omega)
  have n1 := Nm.ix 1 1 rfl (by omega)
  have l1 := Nm.ld 1 (by omega)
  simp (disch := omega) only [J15_5, J15_6, J15_11, i, sh, sh2, shi, dec, n2, l2, n1, l1]
  refine loop_n (fun n s h => ∃ (k : Nat) (SV : LV) (ss : List (Int × LV)), s = (i (atK bs k), i (k : Int)) ∧ (k : Int) + n = wd bs 1 ∧ 0 ≤ atK bs k ∧ atK bs k ≤ bs.length ∧
      Sep noF g h [.cells g.next Z3, .vec intE N (words (bs.drop 4)), .cells xi [i (wd bs 0), SV, .nils], .vec segE SV ss, Rows ss (sgK bs k), .vec zE .nils (zeK bs 0)]) (n := (wd bs 1).toNat)
    ⟨0, .nils, [], rfl, by omega, by simp only [atK]; omega, by simp only [atK]; omega, S⟩ ?_
  rintro n s h ⟨k, SV, ss, rfl, hk, ha0, ha1, S⟩
  have Nm := num_of (S.row 1 rfl)
  have n1 := Nm.ix 1 1 rfl (by omega)
  have l1 := Nm.ld 1 (by omega)
  cases n with
  | zero =>
    simp (disch := omega) only [L15_12, i, sh, sh2, shi, dec, n1, l1]
    exact ref_zeros (k1 := k) wf RV hB hl S (by omega) hw1 hw2 hW
  | succ n =>
    have nb := Nm.ix (4 + 2 * k) (3 + 2 * (k : Int) + 1) (by omega) (by omega)
    have lb := Nm.ld (4 + 2 * k) (by omega)
    have q := wd_range hB (4 + 2 * k)
    by_cases hs : (bs.length : Int) - atK bs k < wd bs (4 + 2 * k)
    · have z6 := S.cell 0 rfl
      simp (disch := omega) only [L15_12, i, sh, sh2, shs, shc, shi, dec, b_len, hlen, n1, l1, nb, lb, bl27 h, z6, ret14, hcp3]
      exact sep_bad S (bad hB (.inr (.inr (.inr (.inr (.inr ⟨k, by omega, hs⟩))))))
    · have na := Nm.ix (3 + 2 * k) (3 + 2 * (k : Int)) (by omega) (by omega)
      have la := Nm.ld (3 + 2 * k) (by omega)
      have x6 := S.cell 2 rfl
      have RVh := RV.old wf S.fr
      obtain ⟨U, eU, RU, cU, oU, _⟩ := RVh.cut cV (i := (atK bs k).toNat) (j := (atK bs k + wd bs (4 + 2 * k)).toNat) (by omega) (by omega) (some (atK bs k)) (some (atK bs k + wd bs (4 + 2 * k))) (by simp only [Option.getD_some]; omega) (by simp only [Option.getD_some]; omega)
      have e1 : byteE.e = 1 := rfl
      rw [e1] at eU
      have hx : (atK bs k + wd bs (4 + 2 * k)).toNat - (atK bs k).toNat = (wd bs (4 + 2 * k)).toNat := by omega
      rw [hx] at RU
      have Sa := S.temp (.cells [] .ex)
      have xa := Sa.cell 2 rfl
      have la1 := (num_of (Sa.row 1 rfl)).ld (3 + 2 * k) (by omega)
      have hlu : ((bs.drop (atK bs k).toNat).take (wd bs (4 + 2 * k)).toNat).length ≤ 16384 := by rw [List.length_take, List.length_drop]; omega
      obtain ⟨V', h2, e2, O2, mi2, f2⟩ := Vec.clone' (bytes := 1) RU (fun a ha => Nat.lt_of_lt_of_le (hV a (oU a ha)) S.le) (by omega)
      have e2 : appendL 1 1 (.slice h.next 0 0 (.ex 0)) U (h.alloc (.cells [] .ex)) = some (V', h2) := e2
      have a2 := ap23c (V := .slice h.next 0 0 (.ex 0)) RU (h.alloc (.cells [] .ex))
      have c2 := O2.row.cell
      have S2 : Sep noF g h2 [.cells g.next Z3, .vec intE N (words (bs.drop 4)), .cells xi [i (wd bs 0), SV, .nils], .vec segE SV ss, Rows (ss ++ [(wd bs (3 + 2 * k), V')]) (sgK bs (k + 1)), .vec zE .nils (zeK bs 0)] := by
        rw [sgK_succ]
        exact Rows.snoc S 4 rfl f2 O2.row O2.lo
      have x2 := S2.cell 2 rfl
      have la2 := (num_of (S2.row 1 rfl)).ld (3 + 2 * k) (by omega)
      have x3 := (S2.temp (.cells [i (wd bs (3 + 2 * k)), V'] .ex)).cell 2 rfl
      have hss : ss.length ≤ 16 := by
        have h0 : All2 (SegR h) ss (sgK bs k) := S.at 4 rfl
        rw [h0.len]; simp [sgK]; omega
      obtain ⟨SV', h4, e4, S4, c4, _, _⟩ := S2.push (bytes := 32) 3 rfl (wd bs (3 + 2 * k), V') (cs := [i (wd bs (3 + 2 * k)), V']) (by simp [segE, c2]) (by omega)
      have e4 : appendL 2 32 SV (.slice h2.next 0 1 (.ex 1)) (h2.alloc (.cells [i (wd bs (3 + 2 * k)), V'] .ex)) = some (SV', h4) := e4
      have x4 := S4.cell 2 rfl
      simp (disch := omega) only [L15_12, i, sh, sh2, shi, dec, b_len, hlen, n1, l1, nb, lb, na, la, x6, cut_t ty.2.2 sz5 Nat.one_ne_zero, eU, bs23_0, xa, la1, a2, e2, x2, la2, bl92_2 _ c2, bs24_2 _ c2, x3, ap24, e4, store_o _ _ _ c4, x4, shc]
      refine ⟨n, by omega, k + 1, SV', ss ++ [(wd bs (3 + 2 * k), V')], by simp [atK, i], by omega, by simp only [atK]; omega, by simp only [atK]; omega, ?_⟩
      exact S4.store 2 rfl [i (wd bs 0), SV', .nils]
set_option maxRecDepth 4000 in
set_option maxHeartbeats 4000000 in
theorem refparse_ok {g : LHeap} {V0 : LV} {bs : List Int} (RV : Row g V0 byteE bs) (cV : Capd V0 1) (hB : Bytes bs) : Ok Try.prog 15 [V0] g (Parsed g bs) := by
  refine ok15 fun wf lt => ?_
  have hlen := RV.len (P := Try.prog) ty.2.2
  have hVlt : ∀ a, V0.obj = some a → a < g.next := fun a ha => lt V0 (by simp) a (obj_mem ha)
  have S0 : Sep noF g (g.alloc (.cells Z3 .ex)) [.cells g.next Z3] := (Sep.start noF g).new Z3
  have z0 := S0.cell 0 rfl
  by_cases h0 : bs.length < 10
  · simp (disch := omega) only [F15, J15_0, i, sh, sh2, shs, shc, shi, dec, b_len, hlen, bl27 g, ret14, hcp3]
    exact ⟨sep_lo S0, .inl ⟨bad hB (.inr (.inl h0)), rfl⟩⟩
  by_cases h1 : 16384 < bs.length
  · simp (disch := omega) only [F15, J15_0, i, sh, sh2, shs, shc, shi, dec, b_len, hlen, bl27 g, ret14, hcp3]
    exact ⟨sep_lo S0, .inl ⟨bad hB (.inl h1), rfl⟩⟩
  simp (disch := omega) only [F15, J15_0, J15_1, J15_2, J15_13, i, sh, sh2, shs, shc, shi, dec, b_len, hlen]
  refine loop_n (fun n s h => ∃ (p : Nat) (N : LV) (ns : List Int), s = (N, i (p : Int)) ∧ p + n = bs.length ∧ p + 1 ≤ bs.length + 1 ∧ words (bs.drop 4) = ns ++ words (bs.drop p) ∧ ns.length ≤ p ∧ Sep noF g h [.cells g.next Z3, .vec intE N ns]) (n := bs.length - 4)
    ⟨4, .nils, [], rfl, by omega, by omega, by simp, by simp, S0.nils intE⟩ ?_
  rintro n s h ⟨p, N, ns, rfl, hp, hp1, hw, hns, S⟩
  by_cases hlt : p + 1 < bs.length
  · obtain ⟨x, hx, hd⟩ := drop_at (l := bs) (k := p) (by omega)
    obtain ⟨y, hy, hd'⟩ := drop_at (l := bs) (k := p + 1) (by omega)
    have bx := hB x (List.mem_of_getElem? hx)
    have by' := hB y (List.mem_of_getElem? hy)
    have RVh := RV.old wf S.fr
    have ix := RV.ix (k := .i64) (i := p) (by omega)
    have iy := RV.ix (k := .i64) (i := p + 1) (by omega)
    have lx := RVh.ld1 hx rfl rfl
    have ly := RVh.ld1 hy rfl rfl
    have e1 : byteE.e = 1 := rfl
    rw [e1] at ix iy
    have iy : ixAddrL none 1 V0 (.int .i64 ((p : Int) + 1)) = some (V0.at 1 (p + 1)) := iy
    obtain ⟨N', h', e, S1, c, _, _⟩ := S.push (bytes := 8) 1 rfl (x + 256 * y) (cs := [i (x + 256 * y)]) rfl (by omega)
    have e : appendL 1 8 N (.slice h.next 0 1 (.ex 1)) (h.alloc (.cells [i (x + 256 * y)] .ex)) = some (N', h') := e
    simp (disch := omega) only [L15_14, i, sh, sh2, shi, dec, b_len, hlen, ix, iy, lx, ly, conv_back, bs51, ap51, e, shc]
    refine ⟨n - 2, by omega, p + 2, N', ns ++ [x + 256 * y], by simp, by omega, by omega, ?_, by simp; omega, S1⟩
    rw [hw, hd, hd', words]
    simp
  · have hw0 : words (bs.drop p) = [] := List.length_eq_zero_iff.1 (by rw [words_len, List.length_drop]; omega)
    rw [hw0, List.append_nil] at hw
    subst hw
    have p1 := wd_range hB 1
    have p2 := wd_range hB 2
    have hWl := words_len (bs.drop 4)
    rw [List.length_drop] at hWl
    have Nm := num_of (S.row 1 rfl)
    have n0 := Nm.ix 0 0 rfl (by omega)
    have l0 := Nm.ld 0 (by omega)
    have n1 := Nm.ix 1 1 rfl (by omega)
    have l1 := Nm.ld 1 (by omega)
    have n2 := Nm.ix 2 2 rfl (by omega)
    have l2 := Nm.ld 2 (by omega)
    have z6 := S.cell 0 rfl
    by_cases hb1 : 16 < wd bs 1
    · simp (disch := omega) only [L15_14, J15_3, i, sh, sh2, shs, shc, shi, dec, b_len, hlen, n1, l1, bl27 h, z6, ret14, hcp3]
      exact sep_bad S (bad hB (.inr (.inr (.inl hb1))))
    by_cases hb2 : 16 < wd bs 2
    · simp (disch := omega) only [L15_14, J15_3, i, sh, sh2, shs, shc, shi, dec, b_len, hlen, n1, l1, n2, l2, bl27 h, z6, ret14, hcp3]
      exact sep_bad S (bad hB (.inr (.inr (.inr (.inl hb2)))))
    by_cases hb3 : (bs.length : Int) < 10 + 4 * wd bs 1 + 4 * wd bs 2
    · simp (disch := omega) only [L15_14, J15_3, i, sh, sh2, shs, shc, shi, dec, b_len, hlen, n1, l1, n2, l2, bl27 h, z6, ret14, hcp3]
      exact sep_bad S (bad hB (.inr (.inr (.inr (.inr (.inl hb3))))))
    simp (disch := omega) only [L15_14, J15_3, J15_4, i, sh, sh2, shs, shc, shi, dec, b_len, hlen, n0, l0, n1, l1, n2, l2, bl27_1]
    have S2 := (S.new [i (wd bs 0), .nils, .nils]).nils segE
    have S3 := S2.add (Rows [] (sgK bs 0)) (Fr.refl _ _) trivial fun a ⟨s, hs, _⟩ => by cases hs
    exact ref_segs wf RV cV hVlt hB (by omega) (S3.nils zE) (by omega) (by omega) (by omega)
end Go.Proofs.Ytaofgdibpbpalaa
