/-
  waitq's reference: Move.
-/
import Derived.Test.YtgncgokjbakdmaaWaK
set_option linter.all false
namespace Go.Proofs.Ytgncgokjbakdmaa
open Go.ChangeShapes Go.WideShapes Go.ChangeAt Go.RowKit Go.Lm
set_option linter.unusedSimpArgs false
set_option linter.unusedVariables false
set_option maxRecDepth 10000
section
variable {F : Nat → Prop} {g h : LHeap} {r : Nat} {V W : LV} {s s' : List Seat} {S : Nat → Prop} {Ts Zs : List Thing}
theorem mvR_len (o : Int → List Chan) (a b : Chan) (n : Int) : ∀ (R : List Seat) (m : Int), (mvR o a b n R m).1.length + (mvR o a b n R m).2.1.length = R.length ∧ m ≤ (mvR o a b n R m).2.2 ∧ (mvR o a b n R m).2.2 ≤ m + R.length
  | [], m => by simp [mvR]
  | p :: R, m => by
    rw [mvR]
    split
    · have := mvR_len o a b n R (m + 1)
      simp only [List.length_cons]; omega
    · have := mvR_len o a b n R m
      simp only [List.length_cons]; omega
def MvI (S : Nat → Prop) (g : LHeap) (r fa fb : Nat) (V : LV) (s : List Seat) (a b : Chan) (n0 : Int) (tot : List Seat × List Seat × Int) (n : Nat) (st : LV × LV × LV × LV) (h : LHeap) : Prop :=
  ∃ (j : Nat) (X Y : LV) (L Bh : List Seat) (m : Int), st = (i m, X, Y, i (j : Int)) ∧ j + n = s.length ∧ Sep S g h [Thing.cells r [V], Thing.vec seatE V s, Thing.cells fa (chanE.f a), Thing.cells fb (chanE.f b), Thing.vec seatE X L, Thing.vec seatE Y Bh] ∧ L.length + Bh.length = j ∧ 0 ≤ m ∧ m ≤ j ∧
      L ++ (mvR (onS s) a b n0 (s.drop j) m).1 = tot.1 ∧ Bh ++ (mvR (onS s) a b n0 (s.drop j) m).2.1 = tot.2.1 ∧ (mvR (onS s) a b n0 (s.drop j) m).2.2 = tot.2.2
set_option maxHeartbeats 2000000 in
/-- Move. -/
theorem rmove_ok (B : (RqBox r S s).ok g) (lt : ∀ b, S b → b < g.next) (hs : s.length ≤ 4096) (a b : Chan) (n0 : Int) :
    Ok Try.prog 64 [.ptr r 0, .agg (chanE.f a), .agg (chanE.f b), i n0] g fun v h => v = i (if a = b then 0 else (mvR (onS s) a b n0 s 0).2.2) ∧ After (RqD r) S g h (if a = b then s else moveS a b n0 s) := by
  obtain ⟨_, ⟨V, rfl⟩, Sp0⟩ := box_open B lt
  refine ok64 fun wf _ => ?_
  have hn1 : newL (.agg (chanE.f a)) g = some (.ptr g.next 0, g.alloc (.cells (chanE.f a) .ex)) := new_agg _ _ (chanE.cell a)
  have hn2 : newL (.agg (chanE.f b)) (g.alloc (.cells (chanE.f a) .ex)) = some (.ptr (g.alloc (.cells (chanE.f a) .ex)).next 0, (g.alloc (.cells (chanE.f a) .ex)).alloc (.cells (chanE.f b) .ex)) := new_agg _ _ (chanE.cell b)
  have Sp1 := (Sp0.new (chanE.f a)).new (chanE.f b)
  have xa := Sp1.cell (a := g.next) (vs := chanE.f a) 2 rfl
  have xb := Sp1.cell (a := (g.alloc (.cells (chanE.f a) .ex)).next) (vs := chanE.f b) 3 rfl
  have eqD := chan_eqD a b
  have f2 : Fr noF g ((g.alloc (.cells (chanE.f a) .ex)).alloc (.cells (chanE.f b) .ex)) := (Fr.alloc _ _).alloc' _
  simp (disch := omega) only [F64, J64_0, i, sh, sh2, hn1, hn2, xa, xb, chan_cell, eqD]
  generalize (g.alloc (.cells (chanE.f a) .ex)).alloc (.cells (chanE.f b) .ex) = g2 at *
  generalize (g.alloc (.cells (chanE.f a) .ex)).next = fb at *
  generalize hfa : g.next = fa at *
  by_cases hab : a = b
  · rw [if_pos hab, if_pos hab, decide_eq_true hab]
    simp (disch := omega) only [i, sh, sh2]
    exact ⟨trivial, After.same ((RqBox r S s).up _ _ (fun c hc => f2.eq c (by have := lt c hc; omega) id) B) f2 (fun c hc => by have := lt c hc; omega)⟩
  rw [if_neg hab, if_neg hab, decide_eq_false hab]
  have x1 := Sp1.cell (a := r) (vs := [V]) 0 rfl
  have R1 := Sp1.row (E := seatE) (V := V) (l := s) 1 rfl
  have hlen := fun g' => R1.len (P := Try.prog) ty73 (g' := g')
  simp (disch := omega) only [i, sh, sh2, J64_1, J64_2, J64_3, x1, b_len, hlen, J64_5]
  have Sp2 := (Sp1.nils seatE).nils seatE
  obtain ⟨tot, htot⟩ : ∃ t, t = mvR (onS s) a b n0 s 0 := ⟨_, rfl⟩
  rw [← htot]
  refine loop_n (fun n (st : LV × LV × LV × LV) h => MvI S g r fa fb V s a b n0 tot n st h) (n := s.length) ⟨0, .nils, .nils, [], [], 0, rfl, by omega, Sp2, rfl, by omega, by omega, by rw [htot]; simp, by rw [htot]; simp, by rw [htot]; simp⟩ ?_
  rintro n st h ⟨j, X, Y, L, Bh, m, rfl, hj, Sp, hlb, hm0, hmj, t1, t2, t3⟩
  cases n with
  | zero =>
    obtain rfl : j = s.length := by omega
    rw [List.drop_length] at t1 t2 t3
    simp only [mvR, List.append_nil] at t1 t2 t3
    have RY := Sp.row (E := seatE) (V := Y) (l := Bh) 5 rfl
    obtain ⟨X', h2, e, S2, cX, n2, f2', o2⟩ := Sp.app (E := seatE) (V := X) (l := L) 4 rfl (bytes := 40) RY (by omega)
    have e : appendL 5 40 X Y h = _ := e
    have ap := ap73 (V := X) (U := Y) RY.not_str h
    rw [e] at ap
    have S2 : Sep S g h2 [Thing.cells r [V], Thing.vec seatE V s, Thing.cells fa (chanE.f a), Thing.cells fb (chanE.f b), Thing.vec seatE X' (L ++ Bh), Thing.vec seatE Y Bh] := S2
    have S3 : Sep S g h2 ([Thing.cells r [V], Thing.vec seatE V s] ++ [Thing.vec seatE X' (L ++ Bh)]) := S2.sub (by
      refine .cons₂ _ (.cons₂ _ (.cons _ (.cons _ (.cons₂ _ (.cons _ .slnil)))))
      )
    obtain ⟨est, S4, x4⟩ := rq_put S3
    simp (disch := omega) only [L64_6, J64_7, J64_4, i, sh, sh2, shi, dec, ap, est]
    refine ⟨by rw [t3], ?_⟩
    have S5 := S4.after (D := RqD r) (x := L ++ Bh) ⟨X', rfl⟩
    have e6 : moveS a b n0 s = L ++ Bh := by unfold moveS; rw [← htot, t1, t2]
    rw [e6]

    exact S5
  | succ n =>
    obtain ⟨p, hp, hd⟩ := drop_at (l := s) (k := j) (by omega)
    have x0 := Sp.cell (a := r) (vs := [V]) 0 rfl
    have Rh := Sp.row (E := seatE) (V := V) (l := s) 1 rfl
    have ix := Rh.ix (k := .i64) (i := j) (by omega)
    have ld := Rh.ld hp
    have e5 : seatE.e = 5 := rfl
    rw [e5] at ix ld
    obtain ⟨N, w1, w2⟩ := new_st5 h p
    obtain ⟨c0, c1, c2, c3⟩ := seat_c p
    have f0 : (seatE.f p)[0]? = some (.int .i64 p.1) := rfl
    have S3 := Sp.new (seatE.f p)
    have hnx : h.next < (h.alloc (.cells (seatE.f p) .ex)).next := Nat.lt_succ_self _
    simp (disch := omega) only [L64_6, J64_7, J64_8, J64_10, J64_11, i, sh, sh2, shi, dec, ix, ld, w1, w2]
    generalize h.alloc (.cells (seatE.f p) .ex) = h3 at *
    generalize h.next = px at *
    have S3 : Sep S g h3 [Thing.cells r [V], Thing.vec seatE V s, Thing.cells fa (chanE.f a), Thing.cells fb (chanE.f b), Thing.vec seatE X L, Thing.vec seatE Y Bh, Thing.cells px (seatE.f p)] := S3
    have xp := S3.cell (a := px) (vs := seatE.f p) 6 rfl
    simp (disch := omega) only [i, sh, sh2, xp, c0, f0]
    refine (ron_ok (S3.cell (a := r) (vs := [V]) 0 rfl) (S3.row (E := seatE) (V := V) (l := s) 1 rfl) hs p.1).mono ?_
    intro U h4 SU
    have RU := SU.row (E := chanE) (V := U) (l := onS s p.1) 0 rfl
    have ltU : ∀ b, U.obj = some b → b < h4.next := fun b hb => SU.lt (T := Thing.vec chanE U (onS s p.1)) 0 rfl hb
    have hlU := fun g' => RU.len (P := Try.prog) ty30 (g' := g')
    have lU := onU_len s p.1 16
    have lU : (onS s p.1).length ≤ 16 * s.length := lU
    have S4 := S3.pure SU.fr
    simp (disch := omega) only [i, sh, sh2, b_len, hlU, J64_13]
    refine loop_n (fun n2 (st : LV × LV) h' => ∃ (k : Nat), st = (.bool (decide (b ∈ (onS s p.1).take k)), i (k : Int)) ∧ k + n2 = (onS s p.1).length ∧ Fr noF h4 h') (n := (onS s p.1).length) ⟨0, by simp, by omega, Fr.refl _ _⟩ ?_
    rintro n2 st h5 ⟨k, rfl, hk, f5⟩
    have S5 := S4.pure f5
    have xa5 := S5.cell (a := fa) (vs := chanE.f a) 2 rfl
    have xb5 := S5.cell (a := fb) (vs := chanE.f b) 3 rfl
    have xp5 := S5.cell (a := px) (vs := seatE.f p) 6 rfl
    cases n2 with
    | zero =>
      obtain rfl : k = (onS s p.1).length := by omega
      rw [List.take_length]
      rw [hd, mvR] at t1 t2 t3
      have eqA := chan_eqD p.2.1 a
      have up : ∀ X' Y' L' Bh' (h' : LHeap), Sep S g h' [Thing.cells r [V], Thing.vec seatE V s, Thing.cells fa (chanE.f a), Thing.cells fb (chanE.f b), Thing.vec seatE X' L', Thing.vec seatE Y' Bh', Thing.cells px (seatE.f p)] → Sep S g h' [Thing.cells r [V], Thing.vec seatE V s, Thing.cells fa (chanE.f a), Thing.cells fb (chanE.f b), Thing.vec seatE X' L', Thing.vec seatE Y' Bh'] := fun X' Y' L' Bh' h' hS => hS.init (Ts := [Thing.cells r [V], Thing.vec seatE V s, Thing.cells fa (chanE.f a), Thing.cells fb (chanE.f b), Thing.vec seatE X' L', Thing.vec seatE Y' Bh'])
      by_cases hpick : pickS (onS s) a b p = true ∧ m < n0
      · rw [if_pos hpick] at t1 t2 t3
        obtain ⟨hpk, hmn⟩ := hpick
        unfold pickS at hpk
        rw [Bool.and_eq_true, decide_eq_true_eq, Bool.not_eq_true', decide_eq_false_iff_not] at hpk
        rw [decide_eq_true hpk.1] at eqA
        rw [decide_eq_false hpk.2]
        have bd := build78 p.1 b p.2.2
        have bp := bs73_p h5 (p.1, b, p.2.2)
        obtain ⟨Y', h6, e, S6, cY, _⟩ := S5.push (E := seatE) (V := Y) (l := Bh) 5 rfl (bytes := 40) (p.1, b, p.2.2) (cs := seatE.f (p.1, b, p.2.2)) rfl (by omega)
        have e : appendL 5 40 Y _ _ = _ := e
        have ap := ap73 (V := Y) (U := .slice h5.next 0 1 (.ex 1)) rfl (h5.alloc (.cells (seatE.f (p.1, b, p.2.2)) .ex))
        rw [e] at ap
        have f4 : (seatE.f p)[4]? = some (.int .i64 p.2.2) := rfl
        simp only [i] at bd c2
        simp (disch := omega) only [L64_14, J64_12, J64_9, i, sh, sh2, shi, dec, xp5, xa5, xb5, c1, chan_cell, eqA, f0, f4, c0, c2, bd, bp, ap]
        refine ⟨n, by omega, j + 1, X, Y', L, Bh ++ [(p.1, b, p.2.2)], m + 1, by simp, by omega, up _ _ _ _ _ S6, by rw [List.length_append]; simp only [List.length_singleton]; omega, by omega, by omega, t1, ?_, t3⟩
        rw [List.append_assoc]; exact t2
      · rw [if_neg hpick] at t1 t2 t3
        have bp := bs73_p h5 p
        obtain ⟨X', h6, e, S6, cX, _⟩ := S5.push (E := seatE) (V := X) (l := L) 4 rfl (bytes := 40) p (cs := seatE.f p) rfl (by omega)
        have e : appendL 5 40 X _ _ = _ := e
        have ap := ap73 (V := X) (U := .slice h5.next 0 1 (.ex 1)) rfl (h5.alloc (.cells (seatE.f p) .ex))
        rw [e] at ap
        have fin : ∃ m_1, m_1 < n + 1 ∧ MvI S g r fa fb V s a b n0 tot m_1 (i m, X', Y, i ((j : Int) + 1)) h6 :=
          ⟨n, by omega, j + 1, X', Y, L ++ [p], Bh, m, by simp, by omega, up _ _ _ _ _ S6, by rw [List.length_append]; simp only [List.length_singleton]; omega, by omega, by omega, by rw [List.append_assoc]; exact t1, t2, t3⟩
        simp only [i] at fin
        by_cases hpa : p.2.1 = a
        · rw [decide_eq_true hpa] at eqA
          by_cases hbo : b ∈ onS s p.1
          · rw [decide_eq_true hbo]
            simp (disch := omega) only [L64_14, J64_12, J64_9, i, sh, sh2, shi, dec, xp5, xa5, xb5, c1, chan_cell, eqA, c3, bp, ap]
            exact fin
          · rw [decide_eq_false hbo]
            have hmn : ¬ m < n0 := fun hmn => hpick ⟨by unfold pickS; simp [hpa, hbo], hmn⟩
            simp (disch := omega) only [L64_14, J64_12, J64_9, i, sh, sh2, shi, dec, xp5, xa5, xb5, c1, chan_cell, eqA, c3, bp, ap]
            exact fin
        · rw [decide_eq_false hpa] at eqA
          generalize decide (b ∈ onS s p.1) = bo
          simp (disch := omega) only [L64_14, J64_12, J64_9, i, sh, sh2, shi, dec, xp5, xa5, xb5, c1, chan_cell, eqA, c3, bp, ap]
          exact fin
    | succ n2 =>
      obtain ⟨d, hd', _⟩ := drop_at (l := onS s p.1) (k := k) (by omega)
      have RU5 : Row h5 U chanE (onS s p.1) := RU.fr fun c hc => f5.eq c (ltU c hc) id
      have ix5 := RU5.ix (k := .i64) (i := k) (by omega)
      have ld5 := RU5.ld hd'
      have e3 : chanE.e = 3 := rfl
      rw [e3] at ix5 ld5
      obtain ⟨N2, v1, v2⟩ := new_st3 h5 d
      have xd : (h5.alloc (.cells (chanE.f d) .ex)).get h5.next = some (.cells (chanE.f d) .ex) := get_alloc_eq _ _
      have S6 := S5.temp (.cells (chanE.f d) .ex)
      have xb6 := S6.cell (a := fb) (vs := chanE.f b) 3 rfl
      have eqD := chan_eqD d b
      have f6 : Fr noF h4 (h5.alloc (.cells (chanE.f d) .ex)) := f5.trans (Fr.alloc _ _)
      have tk := take_snoc hd'
      by_cases hb : b ∈ (onS s p.1).take k
      · have hb2 : b ∈ (onS s p.1).take (k + 1) := by rw [tk]; exact List.mem_append_left _ hb
        rw [decide_eq_true hb]
        simp (disch := omega) only [L64_14, i, sh, sh2, shi, dec, ix5, ld5, v1, v2]
        exact ⟨n2, by omega, k + 1, by rw [decide_eq_true hb2]; simp, by omega, f6⟩
      · rw [decide_eq_false hb]
        by_cases hdb : d = b
        · have hb2 : b ∈ (onS s p.1).take (k + 1) := by rw [tk]; simp [hdb]
          rw [decide_eq_true hdb] at eqD
          simp (disch := omega) only [L64_14, i, sh, sh2, shi, dec, ix5, ld5, v1, v2, xd, xb6, chan_cell, eqD]
          exact ⟨n2, by omega, k + 1, by rw [decide_eq_true hb2]; simp, by omega, f6⟩
        · have hb2 : b ∉ (onS s p.1).take (k + 1) := by rw [tk]; simp [hb]; exact fun h => hdb h.symm
          rw [decide_eq_false hdb] at eqD
          simp (disch := omega) only [L64_14, i, sh, sh2, shi, dec, ix5, ld5, v1, v2, xd, xb6, chan_cell, eqD]
          exact ⟨n2, by omega, k + 1, by rw [decide_eq_false hb2]; simp, by omega, f6⟩
end
end Go.Proofs.Ytgncgokjbakdmaa
