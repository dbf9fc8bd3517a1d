/-
  waitq's reference: All.
-/
import Derived.Test.YtgncgokjbakdmaaWaI
set_option linter.all false
namespace Go.Proofs.Ytgncgokjbakdmaa
open Go.ChangeShapes Go.WideShapes Go.ChangeAt Go.RowKit Go.Lm
set_option linter.unusedSimpArgs false
set_option linter.unusedVariables false
set_option maxRecDepth 10000
theorem cut24_hi {h : LHeap} {W : LV} {l : List Int} (R : Row h W intE l) (C : Capd W 1) {j : Nat} (hj : j ≤ l.length) : ∃ U, cutT Try.prog 24 W none (some (.int .i64 (j : Int))) none (limL W h) = some U ∧ Row h U intE (l.take j) ∧ ∀ b, U.obj = some b → W.obj = some b := by
  obtain ⟨U, e, R', _, ob, _⟩ := R.cut C (i := 0) (j := j) (by omega) hj none (some j) rfl rfl
  exact ⟨U, ((cut_t ty24 sz3 (by decide) W (limL W h)).1 _ _).trans e, by simpa using R', ob⟩
theorem cut24_lo {h : LHeap} {W : LV} {l : List Int} (R : Row h W intE l) (C : Capd W 1) {j : Nat} (hj : j ≤ l.length) : ∃ U, cutT Try.prog 24 W (some (.int .i64 (j : Int))) none none (limL W h) = some U ∧ Row h U intE (l.drop j) ∧ ∀ b, U.obj = some b → W.obj = some b := by
  obtain ⟨U, e, R', _, ob, _⟩ := R.cut C (i := j) (j := l.length) hj (Nat.le_refl _) (some j) none rfl rfl
  refine ⟨U, ((cut_t ty24 sz3 (by decide) W (limL W h)).2.1 _ _).trans e, ?_, ob⟩
  rwa [List.take_of_length_le (by simp)] at R'
/-- Threads, rising. -/
structure RiseS (s : List Seat) (l : List Int) : Prop where
  up : l.Pairwise (· < ·)
  mem : ∀ x, x ∈ l ↔ ∃ p ∈ s, p.1 = x
  le : l.length ≤ s.length
theorem rise_put {l : List Int} {t : Int} {a : Nat} (up : l.Pairwise (· < ·)) (ha : a ≤ l.length) (lo : ∀ x ∈ l.take a, x < t) (hi : ∀ y, l[a]? = some y → t < y) : (l.take a ++ [t] ++ l.drop a).Pairwise (· < ·) := by
  have u1 := up
  rw [← List.take_append_drop a l, List.pairwise_append] at u1
  obtain ⟨p1, p2, p3⟩ := u1
  have dr : ∀ y ∈ l.drop a, t < y := by
    intro y hy
    rcases h : l.drop a with _ | ⟨z, m⟩
    · rw [h] at hy; cases hy
    · have hz : l[a]? = some z := by
        have := List.getElem?_drop (xs := l) (i := a) (j := 0)
        rw [h] at this; simpa using this.symm
      have hz' := hi z hz
      rw [h] at hy p2
      rcases List.mem_cons.1 hy with rfl | hy
      · exact hz'
      · have := (List.pairwise_cons.1 p2).1 y hy; omega
  rw [List.append_assoc, List.pairwise_append]
  refine ⟨p1, ?_, fun x hx y hy => ?_⟩
  · rw [List.singleton_append, List.pairwise_cons]
    exact ⟨dr, p2⟩
  · rw [List.singleton_append] at hy
    rcases List.mem_cons.1 hy with rfl | hy
    · exact lo x hx
    · exact p3 x hx y hy
section
variable {g : LHeap} {r : Nat} {V : LV} {s : List Seat}
set_option maxHeartbeats 2000000 in
theorem rall_ok (x : g.get r = some (.cells [V] .ex)) (R : Row g V seatE s) (hs : s.length ≤ 4096) : Ok Try.prog 65 [.ptr r 0] g fun W h => ∃ l, RiseS s l ∧ Sep noF g h [Thing.vec intE W l] := by
  refine ok65 fun wf _ => ?_
  have hr : r < g.next := wf.lt _ _ x
  have hlen := fun g' => R.len (P := Try.prog) ty73 (g' := g')
  simp (disch := omega) only [F65, J65_0, J65_1, J65_3, i, sh, sh2, x, b_len, hlen]
  refine loop_n (fun n (st : LV × LV) h => ∃ (j : Nat) (W : LV) (l : List Int), st = (W, i (j : Int)) ∧ j + n = s.length ∧ RiseS (s.take j) l ∧ Sep noF g h [Thing.vec intE W l]) (n := s.length) ⟨0, .nils, [], rfl, by omega, ⟨List.Pairwise.nil, by simp, by simp⟩, (Sep.start noF g).nils intE⟩ ?_
  rintro n st h ⟨j, W, l, rfl, hj, rs, Sp⟩
  cases n with
  | zero =>
    obtain rfl : j = s.length := by omega
    rw [List.take_length] at rs
    simp (disch := omega) only [L65_4, J65_5, J65_2, i, sh, sh2, shi, dec]
    exact ⟨l, rs, Sp⟩
  | succ n =>
    obtain ⟨p, hp, _⟩ := drop_at (l := s) (k := j) (by omega)
    have Rh := R.old wf Sp.fr
    have ix := Rh.ix (k := .i64) (i := j) (by omega)
    have ld := Rh.ld hp
    have e5 : seatE.e = 5 := rfl
    rw [e5] at ix ld
    obtain ⟨N, w1, w2⟩ := new_st5 h p
    have c0 : cellO none 0 (some (.cells (seatE.f p) .ex)) = some (.int .i64 p.1) := rfl
    have f0 : (seatE.f p)[0]? = some (.int .i64 p.1) := rfl
    have xc : (h.alloc (.cells (seatE.f p) .ex)).get h.next = some (.cells (seatE.f p) .ex) := get_alloc_eq _ _
    have S3 := Sp.temp (.cells (seatE.f p) .ex)
    have hnx : h.next < (h.alloc (.cells (seatE.f p) .ex)).next := Nat.lt_succ_self _
    simp (disch := omega) only [L65_4, J65_5, J65_6, J65_8, J65_9, i, sh, sh2, shi, dec, ix, ld, w1, w2]
    have wx : ∀ b, W.obj = some b → b ≠ h.next := fun b hb e => by
      have := Sp.lt (T := Thing.vec intE W l) 0 rfl (a := b) hb
      omega
    generalize h.alloc (.cells (seatE.f p) .ex) = h3 at *
    have RW := S3.row (E := intE) (V := W) (l := l) 0 rfl
    have GW := S3.grow (E := intE) (V := W) (l := l) 0 rfl
    have hlW := fun g' => RW.len (P := Try.prog) ty24 (g' := g')
    have ljs : l.length ≤ j := Nat.le_trans rs.le (by rw [List.length_take]; omega)
    have tk : ∀ x, (∃ q ∈ s.take (j + 1), q.1 = x) ↔ (∃ q ∈ s.take j, q.1 = x) ∨ p.1 = x := fun x => by
      rw [take_snoc hp]
      constructor
      · rintro ⟨q, hq, e⟩
        rcases List.mem_append.1 hq with hq | hq
        · exact .inl ⟨q, hq, e⟩
        · rw [List.mem_singleton] at hq; subst hq; exact .inr e
      · rintro (⟨q, hq, e⟩ | e)
        · exact ⟨q, List.mem_append_left _ hq, e⟩
        · exact ⟨p, by simp, e⟩
    have tkl : (s.take (j + 1)).length = j + 1 := by rw [List.length_take]; omega
    refine loop_n (fun n2 (st : LV) h' => ∃ a : Nat, st = i (a : Int) ∧ a + n2 = l.length ∧ (∀ x ∈ l.take a, x < p.1) ∧ h' = h3) (n := l.length) ⟨0, rfl, by omega, by simp, rfl⟩ ?_
    rintro n2 st h' ⟨a, rfl, ha, lo, rfl⟩
    -- behind the inner loop
    have put : (∀ y, l[a]? = some y → p.1 < y) → J65_10 W (.ptr h.next 0) (i (a : Int)) V (i (s.length : Int)) (i (j : Int)) h' (fun s_1 g_1 => ∃ m, m < n + 1 ∧ ∃ (j' : Nat) (W : LV) (l : List Int), s_1 = (W, i (j' : Int)) ∧ j' + m = s.length ∧ RiseS (s.take j') l ∧ Sep noF g g_1 [Thing.vec intE W l]) (fun W h => ∃ l, RiseS s l ∧ Sep noF g h [Thing.vec intE W l]) := by
      intro hy
      have hltW : ∀ b, W.obj = some b → b < h'.next := fun b hb => S3.lt (T := Thing.vec intE W l) 0 rfl (a := b) hb
      have RWa : Row (h'.alloc (.cells [] .ex)) W intE l := RW.fr fun b hb => get_alloc_ne _ _ (Nat.ne_of_lt (hltW b hb))
      obtain ⟨U1, e1, R1a, ob1⟩ := cut24_hi RWa GW.capd (j := a) (by omega)
      have R1 : Row h' U1 intE (l.take a) := R1a.fr fun b hb => (get_alloc_ne _ _ (Nat.ne_of_lt (hltW b (ob1 b hb)))).symm
      have lt1 : ((l.take a)).length ≤ l.length := by rw [List.length_take]; omega
      obtain ⟨N1, h4, ea, S4, cN, f4, lo4⟩ := S3.clone' R1 (fun b hb => hltW b (ob1 b hb)) (bytes := 8) (by omega)
      have ea : appendL 1 8 _ U1 _ = _ := ea
      have ap1 := ap24 (V := .slice h'.next 0 0 (.ex 0)) (U := U1) R1.not_str (h'.alloc (.cells [] .ex))
      rw [ea] at ap1
      obtain ⟨U2, e2, R2, ob2⟩ := cut24_lo (RW.fr (g' := h4) fun b hb => f4.eq b (hltW b hb) id) GW.capd (j := a) (by omega)
      obtain ⟨V5, h5, eb, S5, c5, n5, f5, o5⟩ := S4.push (E := intE) (V := N1) (l := l.take a) 1 rfl (bytes := 8) p.1 (cs := [i p.1]) rfl (by omega)
      have eb : appendL 1 8 N1 _ _ = _ := eb
      have bs := bs24_1 h4 p.1
      have ap2 := ap24 (V := N1) (U := .slice h4.next 0 1 (.ex 1)) rfl (h4.alloc (.cells [i p.1] .ex))
      rw [eb] at ap2
      have f45 : Fr (fun b => N1.obj = some b) h' h5 := (f4.mono fun _ _ => False.elim).trans f5
      have R2' : Row h5 U2 intE (l.drop a) := R2.fr fun b hb => f5.eq b (Nat.lt_of_lt_of_le (hltW b (ob2 b hb)) f4.le) fun hN => by
        have := lo4 b hN; have := hltW b (ob2 b hb); omega
      have ld2 : (l.drop a).length ≤ l.length := by rw [List.length_drop]; omega
      have lt2 : (l.take a ++ [p.1]).length ≤ l.length + 1 := by rw [List.length_append]; simp only [List.length_singleton]; omega
      obtain ⟨V6, h6, ec, S6, c6, _, _, _⟩ := S5.app (E := intE) (V := V5) (l := l.take a ++ [p.1]) 1 rfl (bytes := 8) R2' (by omega)
      have ec : appendL 1 8 V5 U2 h5 = _ := ec
      have ap3 := ap24 (V := V5) (U := U2) R2'.not_str h5
      rw [ec] at ap3
      have f45x : h5.get h.next = some (.cells (seatE.f p) .ex) := (f45.eq _ hnx fun hN => by have := lo4 _ hN; omega).trans xc
      have f4x : h4.get h.next = some (.cells (seatE.f p) .ex) := (f4.eq _ hnx id).trans xc
      have b0 := bs24_0 h'
      have fin : ∃ m, m < n + 1 ∧ ∃ (j' : Nat) (W : LV) (l : List Int), (V6, i ((j : Int) + 1)) = (W, i (j' : Int)) ∧ j' + m = s.length ∧ RiseS (s.take j') l ∧ Sep noF g h6 [Thing.vec intE W l] := by
        refine ⟨n, by omega, j + 1, V6, l.take a ++ [p.1] ++ l.drop a, by simp, by omega, ⟨rise_put rs.up (by omega) lo hy, fun x => ?_, ?_⟩, S6.sub (by simp)⟩
        · rw [tk, ← rs.mem]
          constructor
          · intro hx
            rcases List.mem_append.1 hx with hx | hx
            · rcases List.mem_append.1 hx with hx | hx
              · exact .inl (List.mem_of_mem_take hx)
              · exact .inr (List.mem_singleton.1 hx).symm
            · exact .inl (List.mem_of_mem_drop hx)
          · rintro (hx | rfl)
            · rw [← List.take_append_drop a l] at hx
              rcases List.mem_append.1 hx with hx | hx
              · simp [hx]
              · simp [hx]
            · simp
        · rw [tkl, List.length_append, List.length_append]
          simp only [List.length_singleton, List.length_take, List.length_drop]
          omega
      simp only [i] at fin bs ap2 e1 e2
      rcases Nat.lt_or_ge a l.length with hal | hal
      · obtain ⟨y, hy', _⟩ := drop_at (l := l) (k := a) hal
        have hyt := hy y hy'
        have ixa := RW.ix (k := .i64) (i := a) hal
        have lda := RW.ld1 hy' rfl rfl
        have e1' : intE.e = 1 := rfl
        rw [e1'] at ixa
        simp (disch := omega) only [J65_10, J65_7, i, sh, sh2, shi, dec, hlW, ixa, lda, xc, f0, b0, e1, ap1, f4x, e2, bs, ap2, ap3]
        first | exact fin | exact ⟨⟨⟨fin, trivial⟩, trivial⟩, trivial⟩ | skip
      · simp (disch := omega) only [J65_10, J65_7, i, sh, sh2, shi, dec, hlW, xc, f0, b0, e1, ap1, f4x, e2, bs, ap2, ap3]
        first | exact fin | exact ⟨⟨⟨fin, trivial⟩, trivial⟩, trivial⟩ | skip
    simp only [i] at put
    rcases Nat.lt_or_ge a l.length with hal | hal
    · obtain ⟨y, hy', _⟩ := drop_at (l := l) (k := a) hal
      have ixa := RW.ix (k := .i64) (i := a) hal
      have lda := RW.ld1 hy' rfl rfl
      have e1' : intE.e = 1 := rfl
      rw [e1'] at ixa
      by_cases hyp : y < p.1
      · simp (disch := omega) only [L65_11, i, sh, sh2, shi, dec, hlW, ixa, lda, xc, f0]
        refine ⟨n2 - 1, by omega, a + 1, by simp, by omega, fun x hx => ?_, trivial⟩
        rw [take_snoc hy'] at hx
        rcases List.mem_append.1 hx with hx | hx
        · exact lo x hx
        · rw [List.mem_singleton] at hx; subst hx; exact hyp
      · by_cases hye : y = p.1
        · simp (disch := omega) only [L65_11, J65_10, J65_7, i, sh, sh2, shi, dec, hlW, ixa, lda, xc, f0]
          refine ⟨n, by omega, j + 1, W, l, by simp, by omega, ⟨rs.up, fun x => ?_, by omega⟩, S3⟩
          rw [tk, ← rs.mem]
          constructor
          · exact .inl
          · rintro (h | rfl)
            · exact h
            · exact hye ▸ List.mem_of_getElem? hy'
        · simp (disch := omega) only [L65_11, i, sh, sh2, shi, dec, hlW, ixa, lda, xc, f0]
          exact put fun z hz => by rw [hy'] at hz; cases hz; omega
    · simp (disch := omega) only [L65_11, i, sh, sh2, shi, dec, hlW]
      exact put fun z hz => by rw [List.getElem?_eq_none (by omega)] at hz; cases hz
end
end Go.Proofs.Ytgncgokjbakdmaa
