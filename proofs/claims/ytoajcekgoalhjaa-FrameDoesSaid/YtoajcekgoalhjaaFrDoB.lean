/-
  frame, the reference: New.
-/
import Derived.Test.YtoajcekgoalhjaaFrDoA
set_option linter.all false
namespace Go.Proofs.Ytoajcekgoalhjaa
open Go.ChangeShapes Go.WideShapes Go.ChangeAt Go.RowKit Go.Lm
set_option linter.unusedSimpArgs false
set_option linter.unusedVariables false
set_option maxRecDepth 10000
section
variable {F : Nat → Prop} {g h h' : LHeap} {x y m a k c : Nat} {st : FSt} {S Q : Nat → Prop} {V U : LV} {l l2 bs : List Int} {Ts : List Thing}
theorem RNew_no {frames first count harts : Int} (f0 : 0 ≤ frames) (f4 : frames ≤ 4096) (f1 : first < 9223372036854775808) (hn : ¬ newOk frames first count harts) : Ok Try.prog 36 [i frames, i first, i count, i harts] g fun v h => v = .tuple [.nilp, i 1] ∧ h = g := by
  refine ok36 fun _ _ => ?_
  unfold newOk at hn
  by_cases h1 : harts < 1
  · simp (disch := omega) only [F36, J36_0, i, sh, sh2, shi, dec]
    exact ⟨trivial, trivial⟩
  by_cases h2 : 8 < harts
  · simp (disch := omega) only [F36, J36_0, i, sh, sh2, shi, dec]
    exact ⟨trivial, trivial⟩
  by_cases h3 : count < 1
  · simp (disch := omega) only [F36, J36_0, i, sh, sh2, shi, dec]
    exact ⟨trivial, trivial⟩
  by_cases h4 : first < 0
  · simp (disch := omega) only [F36, J36_0, i, sh, sh2, shi, dec]
    exact ⟨trivial, trivial⟩
  by_cases h5 : frames ≤ first
  · simp (disch := omega) only [F36, J36_0, i, sh, sh2, shi, dec]
    exact ⟨trivial, trivial⟩
  simp (disch := omega) only [F36, J36_0, i, sh, sh2, shi, dec]
  exact ⟨trivial, trivial⟩
theorem slflat (n : Nat) : (List.replicate n LV.nils).flatMap slE.f = List.replicate n LV.nils := by
  induction n with
  | zero => rfl
  | succ n ih => rw [List.replicate_succ, List.flatMap_cons, ih]; rfl
theorem mk103 {n : Nat} (hn : n ≤ 2 ^ 30) (h : LHeap) : makeSliceL Try.prog 103 (i n) (i n) h = some (.slice h.next 0 n (.ex n), h.alloc (.cells ((List.replicate n LV.nils).flatMap slE.f) .ex)) := by
  have e : makeSliceL Try.prog 103 (i n) (i n) h = if 0 ≤ (n : Int) ∧ (n : Int) ≤ n ∧ (24 : Int) * n ≤ 2 ^ 48 ∧ (n : Int) < 2 ^ 62 ∧ (LV.nils).cells.length = 1 ∧ (LV.nils).cellsOK = true then
            some (.slice h.next 0 (n : Int).toNat (.ex (n : Int).toNat), h.alloc (.cells (List.replicate (n : Int).toNat (LV.nils).cells).flatten .ex)) else none := nr (by kernel_rfl)
  rw [e, if_pos ⟨by omega, by omega, by omega, by omega, rfl, rfl⟩]
  simp only [Int.toNat_natCast]
  have e2 : (List.replicate n (LV.nils).cells).flatten = (List.replicate n LV.nils).flatMap slE.f := by
    clear e hn
    induction n with
    | zero => rfl
    | succ n ih => rw [List.replicate_succ, List.flatten_cons, ih, List.replicate_succ, List.flatMap_cons]; rfl
  rw [e2]
theorem Sep.nilLists (S : Sep F g h Ts) (n : Nat) : Sep F g (h.alloc (.cells ((List.replicate n LV.nils).flatMap slE.f) .ex)) (Ts ++ [Thing.vec slE (.slice h.next 0 n (.ex n)) (List.replicate n LV.nils)]) := by
  refine S.vec _ (Row.of (get_alloc_eq _ _) (by simp) ?_ ?_) ⟨Nat.le_refl _, fun hh => by omega⟩ ⟨_, .ex, get_alloc_eq _ _, by decide⟩ (Fr.alloc _ _) fun b hb => ?_
  · rw [List.drop_zero, List.take_of_length_le (by rw [flat_len]; exact Nat.le_refl _)]
  · rw [flat_len]; omega
  · cases hb; exact ⟨Nat.le_refl _, Nat.lt_succ_self _⟩
theorem Sep.nilRows (S : Sep F g h Ts) : ∀ n, Sep F g h (Ts ++ List.replicate n (Thing.row intE .nils []))
  | 0 => by simpa using S
  | n + 1 => by
    have S1 := (Sep.nilRows S n).add (Thing.row intE .nils []) (Fr.refl _ _) (Row.nils _ _) (fun a ha => by cases ha)
    rw [List.append_assoc] at S1
    have e : List.replicate n (Thing.row intE .nils []) ++ [Thing.row intE .nils []] = List.replicate (n + 1) (Thing.row intE .nils []) := by rw [← List.replicate_succ']
    rw [e] at S1
    exact S1
theorem bl111 (first : Int) (b c n q : Nat) : buildL Try.prog 111 [(0, i first), (1, .slice b 0 n (.ex n)), (2, .slice c 0 q (.ex q))] = some (.agg [i first, .slice b 0 n (.ex n), .slice c 0 q (.ex q), .nils]) := nr (by kernel_rfl)
theorem rnew_loop {n harts : Nat} {first : Int} {CV SV : LV} (Sp : Sep F g h (RT x first CV (List.replicate n 0) SV .nils [] (List.replicate harts ⟨.nils, []⟩) ++ Ts)) (hn : n ≤ 4096) (hh : harts ≤ 8) (f0 : 0 ≤ first) (f4 : first ≤ 4096) (w : FWf (newS first n harts bs)) :
    J36_2 (i first) (i n) (.ptr x 0) h fun v h' => ∃ y Q, v = .tuple [.ptr y 0, i 0] ∧ Sep F g h' (RBox y Q (newS first n harts bs) :: Ts) := by
  simp (disch := omega) only [J36_2, J36_4]
  refine loop_n (fun nn s h => ∃ (k : Nat) (CC : LV), s = i (k : Int) ∧ k + nn = n ∧ Sep F g h (RT x first CV (List.replicate n 0) SV CC (riseL first k) (List.replicate harts ⟨.nils, []⟩) ++ Ts)) (n := n) ⟨0, .nils, rfl, by omega, Sp⟩ ?_
  rintro nn s h ⟨k, CC, rfl, hk, Sk⟩
  have hcl : (riseL first k).length = k := by simp [riseL]
  cases nn with
  | zero =>
    obtain rfl : k = n := by omega
    simp (disch := omega) only [L36_5, J36_3, i, sh, sh2, shi, dec]
    obtain ⟨Q, S2⟩ := rebox (D := RD x) (z := newS first k harts bs) Sk ⟨CV, SV, CC, List.replicate harts ⟨.nils, []⟩, rfl, ⟨by show (List.replicate harts (⟨.nils, []⟩ : FX)).map (·.l) = (List.replicate 8 []).take harts; rw [List.map_replicate, List.take_replicate, Nat.min_eq_left hh], fun j r hj => by
      rw [List.getElem?_replicate] at hj
      split at hj
      · cases hj; trivial
      · cases hj⟩, w⟩
    exact ⟨x, Q, rfl, S2⟩
  | succ nn =>
    have x0 := rg_x Sk
    have hbs := bs50_1 (first + (k : Nat)) h
    simp only [i] at hbs
    obtain ⟨V', h5, happ, S5⟩ := vpush (V := CC) (l := riseL first k) Sk (q := 3) rfl (first + (k : Nat)) (by omega)
    have x5 : h5.get x = some (.cells [i first, CV, SV, CC] .ex) := S5.cell 0 rfl
    have RW : Row h5 V' intE (riseL first k ++ [first + (k : Nat)]) := S5.row (E := intE) 3 rfl
    have hst : storeV 1 (.ptr x 3) V' h5 = some (h5.set x (.cells [i first, CV, SV, V'] .ex)) := by rw [store_o _ _ _ RW.cell, x5]; rfl
    have S6 := S5.store 0 rfl [i first, CV, SV, V']
    simp (disch := omega) only [L36_5, i, sh, sh2, shi, dec, x0, hbs, happ]
    simp (disch := omega) only [i, sh, sh2, shi, dec, hst]
    refine ⟨nn, by omega, k + 1, V', rfl, by omega, ?_⟩
    rw [riseL_succ]
    exact S6
theorem perm4 {A : Type} (v s x c : A) : [v, s, x, c].Perm [x, v, s, c] := by
  have h1 : [v, s, x, c].Perm [v, x, s, c] := .cons v (List.Perm.swap _ _ _)
  exact h1.trans (List.Perm.swap _ _ _)
theorem perm4' {A : Type} (v s x c : A) : [s, v, x, c].Perm [x, v, s, c] := (List.Perm.swap v s [x, c]).trans (perm4 v s x c)
theorem RNew_ok {n harts : Nat} {first frames : Int} (Sp : Sep F g h Ts) (f4 : frames ≤ 4096) (hn : newOk frames first n harts) (w : FWf (newS first n harts bs)) :
    Ok Try.prog 36 [i frames, i first, i n, i harts] h fun v h' => ∃ y Q, v = .tuple [.ptr y 0, i 0] ∧ Sep F g h' (RBox y Q (newS first n harts bs) :: Ts) := by
  obtain ⟨k1, k2, k3, k4, k5⟩ := hn
  have hrows : (List.replicate harts (⟨.nils, []⟩ : FX)).map FX.R = List.replicate harts (Thing.row intE .nils []) := by rw [List.map_replicate]; rfl
  have hvs : (List.replicate harts (⟨.nils, []⟩ : FX)).map (·.V) = List.replicate harts LV.nils := by rw [List.map_replicate]
  refine ok36 fun _ _ => ?_
  simp (disch := omega) only [F36, J36_0, J36_1, i, sh, sh2, shi, dec]
  refine ⟨?_, ?_⟩
  · have m1 := mk50 (n := n) (by omega) h
    have S1 := Sep.zeros Sp n
    simp only [i] at m1
    generalize h.alloc (.cells ((List.replicate n (0 : Int)).flatMap intE.f) .ex) = h1 at *
    have m2 := mk103 (n := harts) (by omega) h1
    have S2 := Sep.nilLists S1 harts
    simp only [i] at m2
    generalize h1.alloc (.cells ((List.replicate harts LV.nils).flatMap slE.f) .ex) = h2 at *
    have hb := bl111 first h.next h1.next n harts
    simp only [i] at hb
    have hnw : newL (.agg [.int .i64 first, .slice h.next 0 n (.ex n), .slice h1.next 0 harts (.ex harts), .nils]) h2 = some (.ptr h2.next 0, h2.alloc (.cells [i first, .slice h.next 0 n (.ex n), .slice h1.next 0 harts (.ex harts), .nils] .ex)) := new_agg _ _ (by intro v hv; simp at hv; rcases hv with rfl | rfl | rfl | rfl <;> rfl)
    have S5 := Sep.nilRows ((S2.new [i first, .slice h.next 0 n (.ex n), .slice h1.next 0 harts (.ex harts), .nils]).nils intE) harts
    simp only [List.append_assoc] at S5
    have S6 := S5.perm List.perm_append_comm
    generalize h2.alloc (.cells [i first, .slice h.next 0 n (.ex n), .slice h1.next 0 harts (.ex harts), .nils] .ex) = h3 at *
    have S7 : Sep F g h3 (RT h2.next first (.slice h.next 0 n (.ex n)) (List.replicate n 0) (.slice h1.next 0 harts (.ex harts)) .nils [] (List.replicate harts ⟨.nils, []⟩) ++ Ts) := by
      refine S6.perm (List.Perm.append_right Ts ?_)
      unfold RT RG
      rw [hrows, hvs]
      exact (perm4 _ _ _ _).append_right _
    simp (disch := omega) only [i, sh, sh2, m1, m2, hb, hnw]
    exact ⟨⟨rnew_loop S7 (by omega) (by omega) k4 (by omega) w, trivial⟩, trivial⟩
  · refine ⟨?_, trivial⟩
    have m2 := mk103 (n := harts) (by omega) h
    have S1 := Sep.nilLists Sp harts
    simp only [i] at m2
    generalize h.alloc (.cells ((List.replicate harts LV.nils).flatMap slE.f) .ex) = h1 at *
    have m1 := mk50 (n := n) (by omega) h1
    have S2 := Sep.zeros S1 n
    simp only [i] at m1
    generalize h1.alloc (.cells ((List.replicate n (0 : Int)).flatMap intE.f) .ex) = h2 at *
    have hb := bl111 first h1.next h.next n harts
    simp only [i] at hb
    have hnw : newL (.agg [.int .i64 first, .slice h1.next 0 n (.ex n), .slice h.next 0 harts (.ex harts), .nils]) h2 = some (.ptr h2.next 0, h2.alloc (.cells [i first, .slice h1.next 0 n (.ex n), .slice h.next 0 harts (.ex harts), .nils] .ex)) := new_agg _ _ (by intro v hv; simp at hv; rcases hv with rfl | rfl | rfl | rfl <;> rfl)
    have S5 := Sep.nilRows ((S2.new [i first, .slice h1.next 0 n (.ex n), .slice h.next 0 harts (.ex harts), .nils]).nils intE) harts
    simp only [List.append_assoc] at S5
    have S6 := S5.perm List.perm_append_comm
    generalize h2.alloc (.cells [i first, .slice h1.next 0 n (.ex n), .slice h.next 0 harts (.ex harts), .nils] .ex) = h3 at *
    have S7 : Sep F g h3 (RT h2.next first (.slice h1.next 0 n (.ex n)) (List.replicate n 0) (.slice h.next 0 harts (.ex harts)) .nils [] (List.replicate harts ⟨.nils, []⟩) ++ Ts) := by
      refine S6.perm (List.Perm.append_right Ts ?_)
      unfold RT RG
      rw [hrows, hvs]
      exact (perm4' _ _ _ _).append_right _
    simp (disch := omega) only [i, sh, sh2, m1, m2, hb, hnw]
    exact ⟨⟨rnew_loop S7 (by omega) (by omega) k4 (by omega) w, trivial⟩, trivial⟩
end
end Go.Proofs.Ytoajcekgoalhjaa
